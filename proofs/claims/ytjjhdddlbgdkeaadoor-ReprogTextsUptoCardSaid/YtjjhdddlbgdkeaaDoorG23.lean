/- What the threads behind a byte are, plainly; the program's charset.Has. -/
import Derived.Test.YtjjhdddlbgdkeaaDoorG22
import Derived.BigQuiet
namespace Go.Proofs.YtjjhdddlbgdkeaaDoor
open Go.RowKit

set_option maxHeartbeats 400000 in
theorem Has2_any (s : Cs) (c : Nat) (w : World) (hs : s.wf) (hc : c < 256) :
    Calls Tryd.prog 26 #[.agg #[.int .u64 s.a, .int .u64 s.b, .int .u64 s.c, .int .u64 s.d], .int .u8 c] w fun e w' => e = .returned (.bool (s.has c)) ∧ Below w.heap.size w w' := by
  have h1 : ((c : Int) / 64 = 0 ∨ (c : Int) / 64 = 1 ∨ (c : Int) / 64 = 2 ∨ (c : Int) / 64 = 3) := by omega
  have h0 : (0 : Int) ≤ c ∧ (c : Int) < 256 := by omega
  have h2 : 0 ≤ (c : Int) % 64 ∧ (c : Int) % 64 < 64 := by omega
  rcases h1 with h | h | h | h
  all_goals
    go_enter Tryd.func26, Tryd.ntmps26
    go_wp2
    go_ret
    refine ⟨congrArg (fun b => Ending.returned (.bool b)) ((has_bit _ _ ?_).trans ?_), (Below.refl _ _).alloc (Nat.le_refl _) _⟩
    · first | exact hs.a | exact hs.b | exact hs.c | exact hs.d
    · unfold Cs.has Cs.word
      first | (rw [show c / 64 = 0 by omega]; done) | (rw [show c / 64 = 0 by omega]; rfl) | (rw [show c / 64 = 1 by omega]; rfl) | (rw [show c / 64 = 2 by omega]; rfl) | (rw [show c / 64 = 3 by omega]; rfl)
theorem flatT_get : ∀ (L : List (Nat × Nat)) (i j : Nat) (h : i < L.length), j < 2 → (L.flatMap tcells)[i * 2 + j]? = (tcells L[i])[j]?
  | x :: L, 0, j, _, hj => by
    rw [List.flatMap_cons, List.getElem?_append_left (by show _ < 2; omega)]
    simp
  | x :: L, i + 1, j, h, hj => by
    rw [List.flatMap_cons, List.getElem?_append_right (by show 2 ≤ _; omega)]
    have e : (i + 1) * 2 + j - (tcells x).length = i * 2 + j := by show _ - 2 = _; omega
    rw [e, flatT_get L i j (by simpa using h) hj]
    rfl
/-- What is reached from some instructions, each labelled. -/
structure Outs (m : Sim) (j : Nat) (S out : List (Nat × Nat)) : Prop where
  nd : (out.map Prod.fst).Nodup
  src : ∀ k f, (k, f) ∈ out → m.leaf k ∧ ∃ S1 x S2, S = S1 ++ (x, f) :: S2 ∧ m.Reach j (· = x) k ∧ ∀ y, y ∈ S1 → ¬ m.Reach j (· = y.1) k
  all : ∀ x f k, (x, f) ∈ S → m.Reach j (· = x) k → m.leaf k → ∃ f', (k, f') ∈ out
  srt : S.Pairwise (fun p q => p.2 ≤ q.2) → out.Pairwise fun p q => p.2 ≤ q.2
theorem Outs.nil (m : Sim) (j : Nat) : Outs m j [] [] where
  nd := List.nodup_nil
  src k f h := absurd h (by simp)
  all x f k h := absurd h (by simp)
  srt _ := List.Pairwise.nil
theorem Outs.add {m : Sim} {j : Nat} {S out : List (Nat × Nat)} (h : Outs m j S out) {news : List Nat} {x fr : Nat} (hn : news.Nodup) (hm : ∀ k, k ∈ news ↔ m.leaf k ∧ m.Reach j (· = x) k ∧ ¬ ∃ s, s ∈ S ∧ m.Reach j (· = s.1) k) :
    Outs m j (S ++ [(x, fr)]) (out ++ news.map fun k => (k, fr)) := by
  have e1 : (news.map fun k => (k, fr)).map Prod.fst = news := by
    rw [List.map_map]
    exact List.map_id' news
  refine ⟨?_, fun k f hk => ?_, fun y f k hy hr hl => ?_, fun hs => ?_⟩
  · rw [List.map_append, e1, List.nodup_append]
    refine ⟨h.nd, hn, fun a ha b hb => ?_⟩
    rintro rfl
    obtain ⟨⟨k, f⟩, hkf, rfl⟩ := List.mem_map.1 ha
    obtain ⟨-, S1, z, S2, hS, hr, -⟩ := h.src k f hkf
    exact ((hm k).1 hb).2.2 ⟨(z, f), by rw [hS]; simp, hr⟩
  · rcases List.mem_append.1 hk with hk | hk
    · obtain ⟨h1, S1, z, S2, hS, hr, hno⟩ := h.src k f hk
      exact ⟨h1, S1, z, S2 ++ [(x, fr)], by rw [hS]; simp, hr, hno⟩
    · obtain ⟨k', hk', e⟩ := List.mem_map.1 hk
      injection e with e2 e3
      subst e2 e3
      obtain ⟨h1, h2, h3⟩ := (hm k').1 hk'
      exact ⟨h1, S, x, [], rfl, h2, fun y hy hry => h3 ⟨y, hy, hry⟩⟩
  · by_cases hex : ∃ s, s ∈ S ∧ m.Reach j (· = s.1) k
    · obtain ⟨s, hs, hsr⟩ := hex
      obtain ⟨f', hf'⟩ := h.all s.1 s.2 k hs hsr hl
      exact ⟨f', List.mem_append.2 (.inl hf')⟩
    · rcases List.mem_append.1 hy with hy | hy
      · exact absurd ⟨(y, f), hy, hr⟩ hex
      · obtain ⟨rfl, rfl⟩ : y = x ∧ f = fr := by simpa using hy
        exact ⟨f, List.mem_append.2 (.inr (List.mem_map.2 ⟨k, (hm k).2 ⟨hl, hr, hex⟩, rfl⟩))⟩
  · rw [List.pairwise_append] at hs ⊢
    refine ⟨h.srt hs.1, ?_, fun a ha b hb => ?_⟩
    · rw [List.pairwise_map]
      exact List.pairwise_iff_forall_sublist.2 fun _ => Nat.le_refl _
    · obtain ⟨k, f⟩ := a
      obtain ⟨-, S1, z, S2, hS, -, -⟩ := h.src k f ha
      obtain ⟨k', -, rfl⟩ := List.mem_map.1 hb
      exact hs.2.2 (z, f) (by rw [hS]; simp) (x, fr) (by simp)
/-- Does a thread go on behind the byte i? -/
def goes (m : Sim) (i : Nat) (t : Nat × Nat) : Bool := decide ((m.inst t.1).op = 1) && (m.inst t.1).set.has (m.byte i)
/-- Where the threads that are kept go on. -/
def starts (m : Sim) (i : Nat) (kp : Nat × Nat → Bool) (T : List (Nat × Nat)) : List (Nat × Nat) := (T.filter fun t => goes m i t && kp t).map fun t => (t.1 + 1, t.2)
theorem starts_yes {m : Sim} {i : Nat} {kp : Nat × Nat → Bool} {T : List (Nat × Nat)} {q : Nat} (h : q < T.length) (hg : goes m i T[q] = true) (hk : kp T[q] = true) : starts m i kp (T.take (q + 1)) = starts m i kp (T.take q) ++ [(T[q].1 + 1, T[q].2)] := by
  unfold starts
  rw [List.take_add_one, List.getElem?_eq_getElem h, List.filter_append, List.map_append]
  congr 1
  show List.map _ (List.filter _ [T[q]]) = _
  rw [List.filter_cons_of_pos (by simp [hg, hk])]
  rfl
theorem starts_no {m : Sim} {i : Nat} {kp : Nat × Nat → Bool} {T : List (Nat × Nat)} {q : Nat} (h : q < T.length) (hg : goes m i T[q] = false ∨ kp T[q] = false) : starts m i kp (T.take (q + 1)) = starts m i kp (T.take q) := by
  unfold starts
  rw [List.take_add_one, List.getElem?_eq_getElem h, List.filter_append, List.map_append]
  have e : List.filter (fun t => goes m i t && kp t) (some T[q]).toList = [] := by
    show List.filter _ [T[q]] = _
    rw [List.filter_cons_of_neg (by rcases hg with hg | hg <;> simp [hg])]
    rfl
  rw [e]
  simp
end Go.Proofs.YtjjhdddlbgdkeaaDoor

/- The text of a set: the program's and the reference's. -/
namespace Go.Proofs.YtjjhdddlbgdkeaaDoor
open Go.RowKit
attribute [local go_sem] gives givesUpon

theorem runText_len (a : Cs) (i : Nat) (h : i < 256) : (runText a i).length ≤ 12 := by
  unfold runText
  have h1 := dec_len (n := i) (by omega)
  have h2 := dec_len (n := runEnd a i) (by have := (runEnd_le a 255 i (by omega)).2.1 (by omega); omega)
  rw [List.length_cons, List.length_append]
  split
  · rw [List.length_cons]; omega
  · rw [List.length_nil]; omega
theorem rtext_len (a : Cs) : ∀ i, i ≤ 256 → (rtext a i).length ≤ 12 * i
  | 0, _ => Nat.le_refl _
  | i + 1, h => by
    have ih := rtext_len a i (by omega)
    show (rtext a i ++ _).length ≤ _
    rw [List.length_append]
    split
    · have := runText_len a i (by omega); omega
    · rw [List.length_nil]; omega
set_option maxRecDepth 100000 in
set_option maxHeartbeats 8000000 in
theorem set_any (s : Cs) (w : World) (hs : s.wf) (ht : Tabs w) (h8 : 2 ≤ w.heap.size) :
    Calls Tryd.prog 15 #[.agg #[.int .u64 s.a, .int .u64 s.b, .int .u64 s.c, .int .u64 s.d]] w fun e w' => e = .returned (.string (bs (rtext s 256))) ∧ Below w.heap.size w w' := by
  have HS := hid hs
  have HBX : Hid (Row (w.alloc (.cells #[.int .u64 s.a, .int .u64 s.b, .int .u64 s.c, .int .u64 s.d] 33)) w.heap.size [.int .u64 s.a, .int .u64 s.b, .int .u64 s.c, .int .u64 s.d] 33) := Row.at w [.int .u64 s.a, .int .u64 s.b, .int .u64 s.c, .int .u64 s.d] _
  have HB0 : Hid (Below w.heap.size w (w.alloc (.cells #[.int .u64 s.a, .int .u64 s.b, .int .u64 s.c, .int .u64 s.d] 33))) := Grow.alloc w _
  have HT := hid ht
  have HH := hid (fun (x : World) (c : Nat) (h : c < 256) => Has2_any s c x hs h)
  clear hs ht
  go_enter Tryd.func15, Tryd.ntmps15
  go_upto_region 1 with fail
  generalize w.alloc (.cells #[.int .u64 s.a, .int .u64 s.b, .int .u64 s.c, .int .u64 s.d] 33) = w1 at *
  have HBL := hid HBX.out.lt
  have HT1 : Hid (∀ x, Below w1.heap.size w1 x → Tabs x) := fun x hx => (HT.out.below HB0.out h8).below hx (Nat.le_trans h8 HB0.out.size)
  generalize hb0 : w.heap.size = b0 at HBX HBL
  go_wp2_with fail
  go_loopw [3, 4] (fun vl vi wr => ∃ (i : Nat) (l : List UInt8), i ≤ 256 ∧ l.length ≤ 12 * i ∧ vi = .int .i64 i ∧ vl = .string (bs l) ∧ Hid (l = rtext s i ∧ (i < 256 → s.has i = true → i = 0 ∨ s.has (i - 1) = false)) ∧ Hid (Below w1.heap.size w1 wr)) (fun _ vi _ => 256 - (intOf vi).toNat)
  case atStart => exact ⟨0, [], by omega, by simp, rfl, rfl, ⟨rfl, fun _ _ => .inl rfl⟩, Below.refl _ _⟩
  case round =>
    obtain ⟨i, l, hi, hll, rfl, rfl, HL, HW⟩ := hrel
    have HBX2 := hid (HBX.out.below HW.out HBL.out)
    have q : wr.cell? ⟨b0, 0, none⟩ = some (.int .u64 s.a) ∧ wr.cell? ⟨b0, 1, none⟩ = some (.int .u64 s.b) ∧ wr.cell? ⟨b0, 2, none⟩ = some (.int .u64 s.c) ∧ wr.cell? ⟨b0, 3, none⟩ = some (.int .u64 s.d) := ⟨HBX2.out.cell 0, HBX2.out.cell 1, HBX2.out.cell 2, HBX2.out.cell 3⟩
    have hbl : (bs l).size ≤ 3072 := by rw [bs_size]; omega
    rcases Nat.lt_or_ge i 256 with hlt | hge
    case inr =>
      obtain rfl : i = 256 := by omega
      go_wp2_with fail
      all_goals (try go_ret)
      all_goals
        subst hb0
        exact ⟨by rw [HL.out.1]; rfl, HB0.out.trans (HW.out.mono HB0.out.size)⟩
    have HHI := hid (HH.out wr i hlt)
    go_wp2_with fail
    refine HHI.out.mono ?_
    rintro e w2 ⟨rfl, hb2⟩
    have HW2 := hid (HW.out.trans (hb2.mono HW.out.size))
    have HBX3 := hid (HBX.out.below HW2.out HBL.out)
    clear hb2 q HHI
    cases hh : s.has i with
    | false =>
      have hst : isStart s i = false := by unfold isStart; rw [hh]; rfl
      go_wp2_with fail
      all_goals
        refine ⟨⟨i + 1, l, hlt, by omega, rfl, rfl, ⟨by rw [rtext_skip hst]; exact HL.out.1, fun _ _ => .inr (by rw [show i + 1 - 1 = i by omega]; exact hh)⟩, HW2.out⟩, ?_⟩
        show 256 - ((i : Int) + 1).toNat < 256 - (i : Int).toNat
        omega
    | true =>
      have hst : isStart s i = true := by
        unfold isStart
        rw [hh]
        rcases HL.out.2 hlt hh with h | h
        · subst h; rfl
        · rw [h]; simp
      go_wp2_with fail
      go_loopw [5] (fun vk wr => ∃ k : Nat, i ≤ k ∧ k ≤ 255 ∧ vk = .int .i64 k ∧ Hid (runEnd s k = runEnd s i) ∧ Hid (Below w1.heap.size w1 wr)) (fun vk _ => 255 - (intOf vk).toNat)
      case atStart => exact ⟨i, Nat.le_refl _, by omega, rfl, rfl, HW2.out⟩
      case round =>
        obtain ⟨k, hik, hk, rfl, HRE, HW3⟩ := hrel
        have HBX4 := hid (HBX.out.below HW3.out HBL.out)
        have q : wr.cell? ⟨b0, 0, none⟩ = some (.int .u64 s.a) ∧ wr.cell? ⟨b0, 1, none⟩ = some (.int .u64 s.b) ∧ wr.cell? ⟨b0, 2, none⟩ = some (.int .u64 s.c) ∧ wr.cell? ⟨b0, 3, none⟩ = some (.int .u64 s.d) := ⟨HBX4.out.cell 0, HBX4.out.cell 1, HBX4.out.cell 2, HBX4.out.cell 3⟩
        rcases Nat.lt_or_ge k 255 with hk2 | hk2
        · have dk : decide ((k : Int) < 255) = true := by simp; omega
          have HHK := hid (HH.out wr (k + 1) (by omega))
          rw [show ((k + 1 : Nat) : Int) = (k : Int) + 1 by omega] at HHK
          go_wp2_with fail
          refine HHK.out.mono ?_
          rintro e w4 ⟨rfl, hb4⟩
          have HW4 := hid (HW3.out.trans (hb4.mono HW3.out.size))
          clear hb4 q HHK
          cases hh2 : s.has (k + 1) with
          | true =>
            go_wp2_with fail
            all_goals
              refine ⟨⟨k + 1, by omega, by omega, rfl, ?_, HW4.out⟩, ?_⟩
              · show _ = _
                rw [← HRE.out, runEnd_go hk2 hh2]
              · show 255 - ((k : Int) + 1).toNat < 255 - (k : Int).toNat
                omega
          | false =>
            have hstop : ¬ (k < 255 ∧ s.has (k + 1) = true) := by rw [hh2]; simp
            have hre : runEnd s i = k := by rw [← HRE.out, runEnd_stop hstop]
            have HF1 := hid (Format_any i _ (by omega) (HT1.out _ HW4.out))
            go_wp2_with fail
            refine HF1.out.mono ?_
            rintro e w5 ⟨rfl, hb5⟩
            have HW5 := hid (HW4.out.trans (hb5.mono HW4.out.size))
            have hdl := dec_len (n := i) (by omega)
            have hds : (bs (dec i)).size ≤ 5 := by rw [bs_size]; exact hdl
            have hdk := dec_len (n := k) (by omega)
            have hdks : (bs (dec k)).size ≤ 5 := by rw [bs_size]; exact hdk
            clear hb5 HF1
            rcases Nat.lt_or_ge i k with hik2 | hik2
            · have dik : decide ((i : Int) < (k : Int)) = true := by simp; omega
              have HF2 := hid (Format_any k w5 (by omega) (HT1.out _ HW5.out))
              have HTX : Hid (bs l ++ ((⟨#[32]⟩ : ByteArray) ++ bs (dec i)) ++ ((⟨#[45]⟩ : ByteArray) ++ bs (dec k)) = bs (rtext s (i + 1))) := by
                show _ = _
                rw [rtext_add hst, ← HL.out.1]
                unfold runText
                rw [hre, if_pos hik2]
                show bs l ++ (bs [32] ++ bs (dec i)) ++ (bs [45] ++ bs (dec k)) = _
                rw [bs_app, bs_app, bs_app, bs_app]
                congr 1
                simp
              go_wp2_with fail
              refine HF2.out.mono ?_
              rintro e w6 ⟨rfl, hb6⟩
              have HW6 := hid (HW5.out.trans (hb6.mono HW5.out.size))
              clear hb6 HF2
              go_wp2_with fail
              all_goals
                refine ⟨⟨k + 1, rtext s (i + 1), by omega, ?_, rfl, by rw [HTX.out], ⟨?_, ?_⟩, HW6.out⟩, ?_⟩
                · have := rtext_len s (i + 1) (by omega); omega
                · obtain ⟨d, rfl⟩ : ∃ d, k = i + d := ⟨k - i, by omega⟩
                  exact (rtext_run hh d (by omega)).symm
                · intro h1 h2; exact absurd ⟨by omega, h2⟩ hstop
                · show 256 - ((k : Int) + 1).toNat < 256 - (i : Int).toNat
                  omega
            · obtain rfl : k = i := by omega
              have dik : decide ((k : Int) < (k : Int)) = false := by simp
              have HTX : Hid (bs l ++ ((⟨#[32]⟩ : ByteArray) ++ bs (dec k)) = bs (rtext s (k + 1))) := by
                show _ = _
                rw [rtext_add hst, ← HL.out.1]
                unfold runText
                rw [hre, if_neg (by omega), List.append_nil]
                show bs l ++ (bs [32] ++ bs (dec k)) = _
                rw [bs_app, bs_app]
                rfl
              go_wp2_with fail
              all_goals
                refine ⟨⟨k + 1, rtext s (k + 1), by omega, ?_, rfl, by rw [HTX.out], ⟨rfl, ?_⟩, HW5.out⟩, ?_⟩
                · have := rtext_len s (k + 1) (by omega); omega
                · intro h1 h2; exact absurd ⟨by omega, h2⟩ hstop
                · show 256 - ((k : Int) + 1).toNat < 256 - (k : Int).toNat
                  omega
        · have dk : decide ((k : Int) < 255) = false := by simp; omega
          have hstop : ¬ (k < 255 ∧ s.has (k + 1) = true) := by omega
          clear q
          have hre : runEnd s i = k := by rw [← HRE.out, runEnd_stop hstop]
          have HF1 := hid (Format_any i _ (by omega) (HT1.out _ HW3.out))
          go_wp2_with fail
          refine HF1.out.mono ?_
          rintro e w5 ⟨rfl, hb5⟩
          have HW5 := hid (HW3.out.trans (hb5.mono HW3.out.size))
          have hdl := dec_len (n := i) (by omega)
          have hds : (bs (dec i)).size ≤ 5 := by rw [bs_size]; exact hdl
          have hdk := dec_len (n := k) (by omega)
          have hdks : (bs (dec k)).size ≤ 5 := by rw [bs_size]; exact hdk
          clear hb5 HF1
          rcases Nat.lt_or_ge i k with hik2 | hik2
          · have dik : decide ((i : Int) < (k : Int)) = true := by simp; omega
            have HF2 := hid (Format_any k w5 (by omega) (HT1.out _ HW5.out))
            have HTX : Hid (bs l ++ ((⟨#[32]⟩ : ByteArray) ++ bs (dec i)) ++ ((⟨#[45]⟩ : ByteArray) ++ bs (dec k)) = bs (rtext s (i + 1))) := by
              show _ = _
              rw [rtext_add hst, ← HL.out.1]
              unfold runText
              rw [hre, if_pos hik2]
              show bs l ++ (bs [32] ++ bs (dec i)) ++ (bs [45] ++ bs (dec k)) = _
              rw [bs_app, bs_app, bs_app, bs_app]
              congr 1
              simp
            go_wp2_with fail
            refine HF2.out.mono ?_
            rintro e w6 ⟨rfl, hb6⟩
            have HW6 := hid (HW5.out.trans (hb6.mono HW5.out.size))
            clear hb6 HF2
            go_wp2_with fail
            all_goals
              refine ⟨⟨k + 1, rtext s (i + 1), by omega, ?_, rfl, by rw [HTX.out], ⟨?_, ?_⟩, HW6.out⟩, ?_⟩
              · have := rtext_len s (i + 1) (by omega); omega
              · obtain ⟨d, rfl⟩ : ∃ d, k = i + d := ⟨k - i, by omega⟩
                exact (rtext_run hh d (by omega)).symm
              · intro h1 h2; exact absurd ⟨by omega, h2⟩ hstop
              · show 256 - ((k : Int) + 1).toNat < 256 - (i : Int).toNat
                omega
          · obtain rfl : k = i := by omega
            have dik : decide ((k : Int) < (k : Int)) = false := by simp
            have HTX : Hid (bs l ++ ((⟨#[32]⟩ : ByteArray) ++ bs (dec k)) = bs (rtext s (k + 1))) := by
              show _ = _
              rw [rtext_add hst, ← HL.out.1]
              unfold runText
              rw [hre, if_neg (by omega), List.append_nil]
              show bs l ++ (bs [32] ++ bs (dec k)) = _
              rw [bs_app, bs_app]
              rfl
            go_wp2_with fail
            all_goals
              refine ⟨⟨k + 1, rtext s (k + 1), by omega, ?_, rfl, by rw [HTX.out], ⟨rfl, ?_⟩, HW5.out⟩, ?_⟩
              · have := rtext_len s (k + 1) (by omega); omega
              · intro h1 h2; exact absurd ⟨by omega, h2⟩ hstop
              · show 256 - ((k : Int) + 1).toNat < 256 - (k : Int).toNat
                omega
end Go.Proofs.YtjjhdddlbgdkeaaDoor
