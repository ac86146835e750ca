/- The reference of the parses: a sorted list. -/
import Derived.Test.YthnpbopnpdlmnaaX12
import Derived.Test.YthnpbopnpdlmnaaX11
import Derived.Test.YthnpbopnpdlmnaaX07
import Derived.Test.YthnpbopnpdlmnaaX04
namespace Go.Proofs.Ythnpbopnpdlmnaa
open Go.RowKit
attribute [local go_sem] gives givesUpon

def cls (L c : Nat) (l : List Parse) : List Parse := (List.range' c (L + 1 - c)).reverse.flatMap fun e => l.filter fun q => q.1 == e
theorem cls_zero (L : Nat) (l : List Parse) : cls L 0 l = sortP L l := by unfold cls sortP; rw [List.range_eq_range']; rfl
theorem cls_top (L : Nat) (l : List Parse) : cls L (L + 1) l = [] := by unfold cls; simp
theorem cls_step {L c : Nat} (l : List Parse) (h : c ≤ L) : cls L c l = cls L (c + 1) l ++ l.filter fun q => q.1 == c := by
  unfold cls
  rw [show L + 1 - c = (L + 1 - (c + 1)) + 1 by omega, List.range'_succ, List.reverse_cons, List.flatMap_append]
  simp
theorem filter_step (l : List Parse) (f : Parse → Bool) {k : Nat} {q : Parse} (h : l[k]? = some q) : (l.take (k + 1)).filter f = (l.take k).filter f ++ if f q then [q] else [] := by
  rw [List.take_add_one, h, List.filter_append]
  cases hf : f q <;> simp [hf]
theorem cls_length {L c : Nat} (l : List Parse) : (cls L c l).length ≤ l.length := by
  unfold cls
  suffices h : ∀ es : List Nat, es.Nodup → (es.flatMap fun e => l.filter fun q => q.1 == e).length ≤ l.length from h _ (List.pairwise_reverse.2 ((List.nodup_range' (step := 1)).imp fun h e => h e.symm))
  intro es
  induction es generalizing l with
  | nil => intro _; simp
  | cons e es ih =>
    intro h
    rw [List.nodup_cons] at h
    rw [List.flatMap_cons, List.length_append]
    have h1 := ih (l.filter fun q => !(q.1 == e)) h.2
    have h2 : (es.flatMap fun e' => (l.filter fun q => !(q.1 == e)).filter fun q => q.1 == e') = es.flatMap fun e' => l.filter fun q => q.1 == e' := by
      refine flatMap_same fun e' he' => ?_
      rw [List.filter_filter]
      refine List.filter_congr fun q _ => ?_
      by_cases hq : q.1 = e'
      · have : e' ≠ e := fun e1 => h.1 (e1 ▸ he')
        simp [hq, this]
      · simp [hq]
    rw [h2] at h1
    have := filter_split (fun q : Parse => q.1 == e) l
    omega

def SortL (w : World) (L : Nat) (l : List Parse) (c : Nat) (more : List Parse) (a : Option Addr) (n cc : Nat) (wr : World) : Prop :=
  n = (cls L c l ++ more).length ∧ OwnP wr w.heap.size (.slice a n cc) (cls L c l ++ more) ∧ Below w.heap.size w wr
set_option maxRecDepth 100000 in
set_option maxHeartbeats 8000000 in
theorem rsorted_any (w : World) (p : Nat → Prop) (v : Value) (l : List Parse) (L : Nat) (h : PsQ p w v l) (hn : l.length ≤ 100000) (hL : L ≤ 1000000) :
    Calls Try.prog 73 #[v, .int .i64 L] w fun e w' => ∃ a c, e = .returned (.slice a (sortP L l).length c) ∧ Below w.heap.size w w' ∧ PsQ (w.heap.size ≤ ·) w' (.slice a (sortP L l).length c) (sortP L l) := by
  obtain ⟨va, vc, rfl⟩ := h.form
  obtain ⟨n, hnn⟩ : ∃ n, n = l.length := ⟨_, rfl⟩
  have hn2 : n ≤ 100000 := by omega
  have HNN := hid hnn
  rw [← hnn] at h ⊢
  have HP := hid h
  clear h hnn hn
  go_enter Try.func73, Try.ntmps73
  go_wp2_with fail
  go_loopw [5, 6] (fun v5 v6 wr => ∃ (c : Nat) (J : Int) (a : Option Addr) (m cc : Nat), v5 = .slice a m cc ∧ v6 = .int .i64 J ∧ J = (c : Int) - 1 ∧ c ≤ L + 1 ∧ Hid (SortL w L l c [] a m cc wr)) (fun _ v6 _ => (intOf v6 + 1).toNat)
  case atStart =>
    exact ⟨L + 1, (L : Int), none, 0, 0, rfl, rfl, by omega, Nat.le_refl _, by rw [cls_top]; rfl, by rw [cls_top]; exact OwnP.nil _ _, Below.refl _ _⟩
  case round =>
    obtain ⟨c, J, a, m, cc, rfl, rfl, hJ, hc, HS⟩ := hrel
    cases c with
    | zero =>
      have hJ0 : ¬ (0 : Int) ≤ J := by omega
      have d0 : decide ((0 : Int) ≤ J) = false := by simp; omega
      clear hJ
      go_wp2_with fail
      go_ret
      obtain ⟨h1, h2, h3⟩ := HS.out
      rw [List.append_nil, cls_zero] at h1 h2
      subst h1
      exact ⟨a, cc, rfl, h3, h2.psq.mono fun b _ hb => hb.1⟩
    | succ e =>
      obtain rfl : J = (e : Int) := by omega
      have hJ0 : (0 : Int) ≤ (e : Int) := by omega
      have he : e ≤ L := by omega
      have hwe : IntKind.i64.wrap ((e : Int) - 1) = (e : Int) - 1 := by rw [IntKind.wrap_i64]; omega
      clear hJ hc
      go_wp2_with fail
      go_loopw [5, 7] (fun v5 v7 wr => ∃ (k : Nat) (a : Option Addr) (m cc : Nat), v5 = .slice a m cc ∧ v7 = .int .i64 k ∧ k ≤ n ∧ Hid (SortL w L l (e + 1) ((l.take k).filter fun q => q.1 == e) a m cc wr)) (fun _ v7 _ => n - (intOf v7).toNat)
      case atStart =>
        exact ⟨0, a, m, cc, rfl, rfl, Nat.zero_le _, by show SortL _ _ _ _ _ _ _ _ _; simpa using HS.out⟩
      case round =>
        obtain ⟨k, a, m, cc, rfl, rfl, hk, HS⟩ := hrel
        by_cases hlt : k < n
        · have hltI : (k : Int) < (n : Int) := by omega
          have hkl : k < l.length := by have := HNN.out; omega
          obtain ⟨h1, h2, h3⟩ := HS.out
          have HB := hid h3
          have hsz := h3.size
          obtain ⟨b, c', q1, q2, sa', sc', hq, ev, hbl, -, hbr, p0, p1, hsq⟩ := (HP.out.of (q := p) (fun _ _ hr => hr.below h3 hr.lt) fun _ _ hp hr => ⟨hr.below h3 hr.lt, hp⟩ : PsQ p wr _ l).get hkl
          injection ev with e1 e2 e3
          subst e1; subst e3
          clear e2
          have HSQ := hid hsq
          have HST : Hid (∀ x : Bool, x = (q1 == e) → ((l.take (k + 1)).filter fun q => q.1 == e) = ((l.take k).filter fun q => q.1 == e) ++ if x then [(q1, q2)] else []) := fun x hx => by rw [filter_step l _ hq, hx]
          have HOWN := hid (⟨h1, h2⟩ : _ ∧ _)
          clear h1 h2 h3 hsq hq
          by_cases hqe : q1 = e
          · subst hqe
            go_wp2_with (at_builtin; refine wpList_append_ps rfl _ _ rfl w.heap.size _ (cls L (q1 + 1) l ++ ((l.take k).filter fun q => q.1 == q1)) [(q1, q2)] _ _ rfl ?c0 rfl (PsQ.lit (Row.new rfl) ?c1) ?c2 ?c3 ?_)
            case c0 => exact HOWN.out.2.below ((Below.refl _ _).alloc (Nat.le_refl _) _)
            case c1 => exact HSQ.out.below ((Below.refl _ _).alloc (Nat.le_refl _) _)
            case c2 =>
              have g1 := cls_length (L := L) (c := q1 + 1) l
              have g2 := List.length_filter_le (fun q : Parse => q.1 == q1) (l.take k)
              have := HNN.out
              rw [List.length_take] at g2
              simp only [List.length_append, List.length_cons, List.length_nil]
              omega
            case c3 => simp; omega
            intro a2 n2 c2 w3 hn2' hown hgrow hnw
            have HZ : Hid (SortL w L l (q1 + 1) ((l.take (k + 1)).filter fun q => q.1 == q1) a2 n2 c2 w3) := by
              have h5 := HST.out true (by simp)
              refine ⟨?_, ?_, (HB.out.alloc hsz _).grown hgrow (by simp; omega) fun g hg => (HOWN.out.2.lt g hg).1⟩
              · rw [h5, hn2']; simp
              · rw [h5, if_pos rfl]; first | exact hown | (rw [← List.append_assoc]; exact hown)
            clear hown hgrow hnw hn2' p0 p1
            go_wp2_with fail
            refine ⟨⟨k + 1, a2, n2, c2, rfl, by go_num, by omega, HZ.out⟩, ?_⟩
            simp [intOf] <;> omega
          · have d1 : ((q1 : Int) == (e : Int)) = false := by simp; omega
            have HZ : Hid (SortL w L l (e + 1) ((l.take (k + 1)).filter fun q => q.1 == e) a m cc wr) := by
              have h5 := HST.out false (by simp [hqe])
              exact ⟨by rw [h5]; simpa using HOWN.out.1, by rw [h5]; simpa using HOWN.out.2, HB.out⟩
            clear hqe
            go_wp2_with fail
            refine ⟨⟨k + 1, a, m, cc, rfl, by go_num, by omega, HZ.out⟩, ?_⟩
            simp [intOf] <;> omega
        · obtain rfl : k = n := by omega
          have hltI : ¬ (k : Int) < (k : Int) := by omega
          have HZ : Hid (SortL w L l e [] a m cc wr) := by
            have h5 := HS.out
            rw [HNN.out, List.take_length] at h5
            unfold SortL
            rw [List.append_nil, cls_step l he]
            exact h5
          go_wp2_with fail
          refine ⟨⟨e, (e : Int) - 1, a, m, cc, rfl, rfl, rfl, by omega, HZ.out⟩, ?_⟩
          simp [intOf] <;> omega

def RetP (w : World) (r : Option (List Parse)) (e : Ending) (w' : World) : Prop :=
  ∃ a n c, e = .returned (.tuple #[.slice a n c, .bool r.isSome]) ∧ Below w.heap.size w w' ∧ (∀ l, r = some l → n = l.length ∧ PsQ (w.heap.size ≤ ·) w' (.slice a n c) l) ∧ (r = none → a = none ∧ n = 0 ∧ c = 0)
set_option maxRecDepth 100000 in
set_option maxHeartbeats 8000000 in
theorem rdone_any (w : World) (p : Nat → Prop) (v : Value) (l l0 : List Parse) (s : ByteArray) (lines : Bool) (hl : l = nub l0) (h : PsQ p w v l) (hn : l.length ≤ 100000) (hL : s.size ≤ 1000000) :
    Calls Try.prog 57 #[.agg #[.string s, .bool lines], v] w (RetP w (fin s.size l0)) := by
  obtain ⟨va, vc, rfl⟩ := h.form
  have hB : Below w.heap.size w (w.alloc (.cells #[.string s, .bool lines] 75)) := (Below.refl _ _).alloc (Nat.le_refl _) _
  have HB := hid hB
  have HF : Hid (fin s.size l0 = if most < l.length then none else some (sortP s.size l)) := by show _ = _; unfold fin; rw [hl]
  have HS := hid (rsorted_any (w.alloc (.cells #[.string s, .bool lines] 75)) p _ l s.size (h.below hB) hn hL)
  obtain ⟨n, hnn⟩ : ∃ n, n = l.length := ⟨_, rfl⟩
  have HNN := hid hnn
  rw [← hnn] at HS HF ⊢
  clear h hnn hB
  go_enter Try.func57, Try.ntmps57
  by_cases hm : 4096 < n
  · have hmI : (4096 : Int) < (n : Int) := by omega
    have HM := hid hm
    clear hm
    go_wp2_with fail
    go_ret2
    rw [HF.out, if_pos (show most < n from HM.out)]
    exact ⟨none, 0, 0, rfl, HB.out, fun l h => (by cases h), fun _ => ⟨rfl, rfl, rfl⟩⟩
  · have hmI : ¬ (4096 : Int) < (n : Int) := by omega
    have HM := hid hm
    clear hm
    go_wp2_with fail
    refine HS.out.mono ?_
    rintro e w1 ⟨a, c, rfl, hb, hp⟩
    have HP := hid (⟨hb, hp⟩ : _ ∧ _)
    clear hb hp HS
    obtain ⟨m, hm⟩ : ∃ m, m = (sortP s.size l).length := ⟨_, rfl⟩
    rw [← hm] at HP ⊢
    have HMM := hid hm
    clear hm
    go_wp2_with fail
    go_ret2
    rw [HF.out, if_neg (show ¬ most < n from HM.out)]
    refine ⟨a, m, c, rfl, HB.out.trans (HP.out.1.mono (by simp)), fun l' hl' => ?_, fun h => (by cases h)⟩
    have := Option.some.inj hl'
    subst this
    exact ⟨HMM.out, HP.out.2.mono fun b _ hb => by simp at hb; omega⟩
end Go.Proofs.Ythnpbopnpdlmnaa

/- A tree that Check lets pass. -/
namespace Go.Proofs.Ythnpbopnpdlmnaa
open Go.RowKit

theorem shaped_ok {p : Pay} {n : Nat} (h : p.shaped n = true) : (1 ≤ p.op ∧ p.op ≤ 9) ∧ (p.op = 3 ∨ p.op = 4 → 2 ≤ n) ∧ (p.op = 5 ∨ p.op = 6 → n = 1) := by
  unfold Pay.shaped at h
  split at h
  · rename_i h1; refine ⟨by omega, fun h => by omega, fun h => by omega⟩
  split at h
  · rename_i h1; refine ⟨by omega, fun h => by omega, fun h => by omega⟩
  split at h
  · rename_i h1
    simp only [Bool.and_eq_true, decide_eq_true_eq] at h
    refine ⟨by omega, fun _ => h.1.1.1, fun h => by omega⟩
  split at h
  · rename_i h1
    simp only [Bool.and_eq_true, decide_eq_true_eq] at h
    refine ⟨by omega, fun h => by omega, fun _ => h.1.1⟩
  split at h
  · rename_i h1
    simp only [Bool.and_eq_true, decide_eq_true_eq] at h
    refine ⟨by omega, fun h => by omega, fun _ => h.1.1⟩
  split at h
  · rename_i h1; refine ⟨by omega, fun h => by omega, fun h => by omega⟩
  · cases h
mutual
theorem Re.ok_aux (N : Nat) : ∀ (t : Re) (b n : Nat) (l l' : List Int), t.typed = true → t.ranged b = some n → t.named l = some l' → n ≤ N → (∀ g, g ∈ l → 1 ≤ g ∧ g ≤ N) → t.size ≤ 1000000 → t.ok N ∧ (∀ g, g ∈ l' → 1 ≤ g ∧ g ≤ N)
  | .mk p xs, b, n, l, l', h1, h2, h3, hn, hl, hs => by
    rw [Re.typed, Bool.and_eq_true] at h1
    rw [Re.ranged] at h2
    rw [Re.named] at h3
    rw [Re.size_mk] at hs
    obtain ⟨s1, s2, s3⟩ := shaped_ok h1.1
    split at h2
    · cases h2
    split at h3
    · cases h3
    rename_i h5 h9
    have hx : ∀ (b' : Nat), Re.rangeds xs b' = some n → (p.op = 6 → p.gr = b' ∧ 1 ≤ b') → (Re.mk p xs).ok N ∧ (∀ g, g ∈ l' → 1 ≤ g ∧ g ≤ N) := by
      intro b' hr hb'
      have hg := Re.rangeds_groups xs b' n hr
      cases hm : Re.nameds xs l with
      | none => rw [hm] at h3; cases h3
      | some l2 =>
        rw [hm] at h3
        obtain ⟨k1, k2⟩ := Re.oks_aux N xs b' n l l2 h1.2 hr hm hn hl (by omega)
        refine ⟨?_, ?_⟩
        · rw [Re.ok]
          refine ⟨⟨s1, by omega⟩, fun h => ?_, fun h => ?_, fun h => ?_, k1⟩
          · have := s2 h; rintro rfl; simp at this
          · have := s3 h
            match xs, this with
            | [x], _ => exact ⟨x, rfl⟩
          · rcases h with h | h
            · have := hb' h; omega
            · have : p.gr ∈ l := by
                by_cases hm : p.gr ∈ l
                · exact hm
                · exact absurd ⟨h, hm⟩ h9
              exact hl _ this
        · intro g hgm
          by_cases h6 : p.op = 6
          · simp only [h6, if_true] at h3
            have h3' := Option.some.inj h3
            subst h3'
            rcases List.mem_append.1 hgm with hgm | hgm
            · exact k2 g hgm
            · have := List.mem_singleton.1 hgm; have := hb' h6; omega
          · simp only [h6, if_false] at h3
            have h3' := Option.some.inj h3
            subst h3'
            exact k2 g hgm
    split at h2
    · rename_i h6
      split at h2
      · rename_i hgr
        exact hx (b + 1) h2 (fun _ => ⟨by omega, by omega⟩)
      · cases h2
    · rename_i h6
      exact hx b h2 (fun h => absurd h h6)
theorem Re.oks_aux (N : Nat) : ∀ (xs : List Re) (b n : Nat) (l l' : List Int), Re.typeds xs = true → Re.rangeds xs b = some n → Re.nameds xs l = some l' → n ≤ N → (∀ g, g ∈ l → 1 ≤ g ∧ g ≤ N) → Re.sizes xs ≤ 1000000 → Re.oks N xs ∧ (∀ g, g ∈ l' → 1 ≤ g ∧ g ≤ N)
  | [], b, n, l, l', h1, h2, h3, hn, hl, hs => by
    rw [Re.nameds] at h3
    have := Option.some.inj h3
    subst this
    exact ⟨by rw [Re.oks]; trivial, hl⟩
  | t :: ts, b, n, l, l', h1, h2, h3, hn, hl, hs => by
    rw [Re.typeds, Bool.and_eq_true] at h1
    rw [Re.rangeds] at h2
    rw [Re.nameds] at h3
    have hs2 : t.size + Re.sizes ts ≤ 1000000 := hs
    cases hr : t.ranged b with
    | none => rw [hr] at h2; cases h2
    | some b2 =>
      rw [hr] at h2
      cases hm : t.named l with
      | none => rw [hm] at h3; cases h3
      | some l2 =>
        rw [hm] at h3
        have hb2 := Re.rangeds_groups ts b2 n h2
        obtain ⟨k1, k2⟩ := Re.ok_aux N t b b2 l l2 h1.1 hr hm (by omega) hl (by omega)
        obtain ⟨k3, k4⟩ := Re.oks_aux N ts b2 n l2 l' h1.2 h2 h3 hn k2 (by omega)
        exact ⟨by rw [Re.oks]; exact ⟨k1, k3⟩, k4⟩
end
theorem Re.ok_err {t : Re} (h : t.err = 0) : t.ok t.groups ∧ t.groups ≤ 9 ∧ t.size ≤ 600 := by
  unfold Re.err at h
  cases h1 : t.typed with
  | false => simp [h1] at h
  | true =>
    cases h2 : t.ranged 0 with
    | none => simp [h1, h2] at h
    | some n =>
      cases h3 : t.named [] with
      | none => simp [h1, h2, h3] at h
      | some l =>
        simp only [h1, h2, h3] at h
        have hlim : ¬ (600 < t.size ∨ 9 < t.groups ∨ 32 < t.levels) := by
          intro hx; simp [hx] at h
        have hg := Re.ranged_groups t 0 n h2
        exact ⟨(Re.ok_aux t.groups t 0 n [] l h1 h2 h3 (by omega) (fun g hg => by cases hg) (by omega)).1, by omega, by omega⟩

def chk (t : Re) (s : ByteArray) (at_ : Int) : Int := if t.err ≠ 0 then t.err else if at_ < 0 ∨ (s.size : Int) < at_ then 2 else 0
theorem chk_zero {t : Re} {s : ByteArray} {at_ : Int} (h : chk t s at_ = 0) : t.err = 0 ∧ 0 ≤ at_ ∧ at_ ≤ s.size := by
  unfold chk at h
  by_cases h1 : t.err ≠ 0
  · rw [if_pos h1] at h; exact absurd h h1
  · rw [if_neg h1] at h
    by_cases h2 : at_ < 0 ∨ (s.size : Int) < at_
    · rw [if_pos h2] at h; cases h
    · exact ⟨by omega, by omega, by omega⟩
end Go.Proofs.Ythnpbopnpdlmnaa

/- What Parses, At and Leftmost hand out, plainly. -/
namespace Go.Proofs.Ythnpbopnpdlmnaa
open Go.RowKit

def parsesR (t : Re) (s : ByteArray) (at_ : Int) (lines : Bool) : List Parse × Int :=
  if chk t s at_ ≠ 0 then ([], chk t s at_) else match parses s.data.toList lines t at_.toNat (unsetAll t.groups) with
    | none => ([], 11)
    | some l => (l, 0)
def atR (r : List Parse × Int) (at_ : Int) : Spans × Bool × Int := match r.1 with
  | [] => ([], false, r.2)
  | q :: _ => ((at_, (q.1 : Int)) :: q.2, true, 0)
def leftR (t : Re) (s : ByteArray) (lines : Bool) : Nat → Nat → Spans × Bool × Int
  | 0, _ => ([], false, 0)
  | d + 1, i => if (atR (parsesR t s i lines) i).2.1 = true ∨ (atR (parsesR t s i lines) i).2.2 ≠ 0 then atR (parsesR t s i lines) i else leftR t s lines d (i + 1)
def leftmostR (t : Re) (s : ByteArray) (from_ : Int) (lines : Bool) : Spans × Bool × Int :=
  if chk t s from_ ≠ 0 then ([], false, chk t s from_) else leftR t s lines (s.size + 1 - from_.toNat) from_.toNat
def ParsesPost (w : World) (r : List Parse × Int) (e : Ending) (w' : World) : Prop :=
  ∃ a c, e = .returned (.tuple #[.slice a r.1.length c, .int .i64 r.2]) ∧ Below w.heap.size w w' ∧ PsQ (w.heap.size ≤ ·) w' (.slice a r.1.length c) r.1
def MatchPost (w : World) (r : Spans × Bool × Int) (e : Ending) (w' : World) : Prop :=
  ∃ a c, e = .returned (.tuple #[.agg #[.slice a r.1.length c], .bool r.2.1, .int .i64 r.2.2]) ∧ Below w.heap.size w w' ∧ SpQ w' (.slice a r.1.length c) r.1
theorem unsetAll_ok (N L : Nat) : SpOk N L (unsetAll N) := ⟨by simp [unsetAll], fun x hx => .inl (List.mem_replicate.1 hx).2⟩
theorem parsesR_ok {t : Re} {s : ByteArray} {at_ : Int} {lines : Bool} : (∀ q, q ∈ (parsesR t s at_ lines).1 → POk t.groups s.size at_.toNat q) ∧ ((parsesR t s at_ lines).1 ≠ [] → chk t s at_ = 0 ∧ (parsesR t s at_ lines).2 = 0) := by
  have hsl : s.data.toList.length = s.size := by rw [Array.length_toList]; rfl
  unfold parsesR
  by_cases h : chk t s at_ ≠ 0
  · rw [if_pos h]
    exact ⟨fun q hq => (by cases hq), fun h => absurd rfl h⟩
  · rw [if_neg h]
    have h0 : chk t s at_ = 0 := Classical.byContradiction h
    obtain ⟨he, h1, h2⟩ := chk_zero h0
    cases hp : parses s.data.toList lines t at_.toNat (unsetAll t.groups) with
    | none => exact ⟨fun q hq => (by cases hq), fun h => absurd rfl h⟩
    | some l =>
      refine ⟨fun q hq => ?_, fun _ => ⟨h0, rfl⟩⟩
      have := parses_ok s.data.toList lines t.groups t at_.toNat (unsetAll t.groups) l (Re.ok_err he).1 (by rw [hsl]; omega) (by rw [hsl]; exact unsetAll_ok _ _) hp q hq
      rwa [hsl] at this
end Go.Proofs.Ythnpbopnpdlmnaa

/- The order of parses, plainly: they are sorted by their ends, no two are equal, and the spans of groups lie within them. -/
namespace Go.Proofs.Ythnpbopnpdlmnaa
open Go.RowKit

def Neat (l : List Parse) : Prop := l.Pairwise (fun x y => y.1 ≤ x.1) ∧ l.Nodup
theorem Neat.nil : Neat [] := ⟨by simp, by simp⟩
theorem Neat.one (q : Parse) : Neat [q] := ⟨by simp, by simp⟩
theorem fin_neat {L : Nat} {l m : List Parse} (h : fin L l = some m) : Neat m := by
  unfold fin at h
  split at h
  · cases h
  · have := Option.some.inj h; subst this
    refine ⟨sortP_desc _ _, ?_⟩
    rw [← nub_sortP]
    exact nub_nodup _
theorem parses_neat {s : List UInt8} {lines : Bool} : ∀ {t : Re} {i : Nat} {sp : Spans} {l : List Parse}, parses s lines t i sp = some l → Neat l
  | .mk p xs, i, sp, l, h => by
    rw [parses] at h
    split at h
    · have := Option.some.inj h; subst this; exact .one _
    split at h
    · have := Option.some.inj h; subst this
      split
      · exact .one _
      · exact .nil
    split at h
    · obtain ⟨m, h1, h2⟩ := Option.bind_eq_some_iff.1 h; exact fin_neat h2
    split at h
    · obtain ⟨m, h1, h2⟩ := Option.bind_eq_some_iff.1 h; exact fin_neat h2
    split at h
    · obtain ⟨m, h1, h2⟩ := Option.bind_eq_some_iff.1 h; exact fin_neat h2
    split at h
    · obtain ⟨m, h1, h2⟩ := Option.bind_eq_some_iff.1 h; exact fin_neat h2
    split at h
    · have := Option.some.inj h; subst this
      split
      · exact .one _
      · exact .nil
    split at h
    · have := Option.some.inj h; subst this
      split
      · exact .one _
      · exact .nil
    · have := Option.some.inj h; subst this
      split
      · exact .one _
      · exact .nil
section
variable (s : List UInt8) (lines : Bool) (N i0 : Nat)
end
end Go.Proofs.Ythnpbopnpdlmnaa

/- What a repetition visits, plainly: all that can be reached. -/
namespace Go.Proofs.Ythnpbopnpdlmnaa
open Go.RowKit

def clampC (p : Pay) (c : Nat) : Nat := if p.hi < 0 ∧ p.lo < (c : Int) then p.lo.toNat else c
section
variable (p : Pay) (gs : List Nat) (child : Nat → Spans → Option (List Parse))
def Nxt (v u : Sit) : Prop := (p.hi < 0 ∨ (v.1 : Int) < p.hi) ∧ ∃ l, child v.2.1 (unset v.2.2 gs) = some l ∧ ∃ q, q ∈ l ∧ ¬ (q.1 = v.2.1 ∧ p.lo ≤ (v.1 : Int)) ∧ u = (clampC p (v.1 + 1), q)
inductive Rch : Sit → Sit → Prop
  | refl (v : Sit) : Rch v v
  | step {v u z : Sit} : Nxt p gs child v u → Rch u z → Rch v z
theorem Rch.trans {v u z : Sit} (h : Rch p gs child v u) (k : Rch p gs child u z) : Rch p gs child v z := by
  induction h with
  | refl _ => exact k
  | step h _ ih => exact .step h (ih k)
structure VSpec (x : Sit) (st st' : List Sit × List Parse) : Prop where
  mono : ∀ v, v ∈ st.1 → v ∈ st'.1
  self : (clampC p x.1, x.2) ∈ st'.1
  closed : ∀ v, v ∈ st'.1 → v ∈ st.1 ∨ ∀ u, Nxt p gs child v u → u ∈ st'.1
  reach : ∀ v, v ∈ st'.1 → v ∈ st.1 ∨ Rch p gs child (clampC p x.1, x.2) v
  out : ∀ q, q ∈ st'.2 ↔ q ∈ st.2 ∨ ∃ c : Nat, (c, q) ∈ st'.1 ∧ (c, q) ∉ st.1 ∧ p.lo ≤ (c : Int)
  kid : ∀ v, v ∈ st'.1 → v ∈ st.1 ∨ ((p.hi < 0 ∨ (v.1 : Int) < p.hi) → ∃ l, child v.2.1 (unset v.2.2 gs) = some l)
theorem VSpec.done {x : Sit} {st : List Sit × List Parse} (h : (clampC p x.1, x.2) ∈ st.1) : VSpec p gs child x st st :=
  ⟨fun _ h => h, h, fun _ h => .inl h, fun _ h => .inl h, fun _ => ⟨.inl, fun h => h.elim id fun ⟨_, h1, h2, _⟩ => absurd h1 h2⟩, fun _ h => .inl h⟩
structure FSpec (v0 : Sit) (l : List Parse) (st st' : List Sit × List Parse) : Prop where
  mono : ∀ v, v ∈ st.1 → v ∈ st'.1
  all : ∀ q, q ∈ l → (q.1 = v0.2.1 ∧ p.lo ≤ (v0.1 : Int)) ∨ (clampC p (v0.1 + 1), q) ∈ st'.1
  closed : ∀ v, v ∈ st'.1 → v ∈ st.1 ∨ ∀ u, Nxt p gs child v u → u ∈ st'.1
  reach : ∀ v, v ∈ st'.1 → v ∈ st.1 ∨ ∃ q, q ∈ l ∧ ¬ (q.1 = v0.2.1 ∧ p.lo ≤ (v0.1 : Int)) ∧ Rch p gs child (clampC p (v0.1 + 1), q) v
  out : ∀ q, q ∈ st'.2 ↔ q ∈ st.2 ∨ ∃ c : Nat, (c, q) ∈ st'.1 ∧ (c, q) ∉ st.1 ∧ p.lo ≤ (c : Int)
  kid : ∀ v, v ∈ st'.1 → v ∈ st.1 ∨ ((p.hi < 0 ∨ (v.1 : Int) < p.hi) → ∃ l, child v.2.1 (unset v.2.2 gs) = some l)
theorem fold_spec {f : Nat} (hv : ∀ x st st', visit p gs child f x st = some st' → VSpec p gs child x st st') (c : Nat) (j : Nat) (sp : Spans) : ∀ (l : List Parse) (st st' : List Sit × List Parse),
    l.foldlM (fun st q => if q.1 = j ∧ p.lo ≤ (c : Int) then some st else visit p gs child f (c + 1, q.1, q.2) st) st = some st' → FSpec p gs child (c, j, sp) l st st'
  | [], st, st', h => by
    have := Option.some.inj h; subst this
    exact ⟨fun _ h => h, (fun _ h => by cases h), fun _ h => .inl h, fun _ h => .inl h, fun q => ⟨.inl, fun h => h.elim id fun ⟨c, h1, h2, _⟩ => absurd h1 h2⟩, fun _ h => .inl h⟩
  | a :: l, st, st', h => by
    rw [List.foldlM_cons] at h
    obtain ⟨s1, h1, h2⟩ := Option.bind_eq_some_iff.1 h
    have F := fold_spec hv c j sp l s1 st' h2
    by_cases hs : a.1 = j ∧ p.lo ≤ (c : Int)
    · rw [if_pos hs] at h1
      have := Option.some.inj h1; subst this
      refine ⟨F.mono, fun q hq => ?_, F.closed, fun v hv => (F.reach v hv).imp id fun ⟨q, h3, h4⟩ => ⟨q, List.mem_cons_of_mem _ h3, h4⟩, F.out, F.kid⟩
      rcases List.mem_cons.1 hq with rfl | hq
      · exact .inl hs
      · exact F.all q hq
    · rw [if_neg hs] at h1
      have V := hv _ _ _ h1
      refine ⟨fun v h => F.mono v (V.mono v h), fun q hq => ?_, fun v hm => ?_, fun v hm => ?_, fun q => ?_, fun v hm => (F.kid v hm).elim (V.kid v) .inr⟩
      · rcases List.mem_cons.1 hq with rfl | hq
        · exact .inr (F.mono _ V.self)
        · exact F.all q hq
      · rcases F.closed v hm with h3 | h3
        · exact (V.closed v h3).imp id fun h4 u hu => F.mono u (h4 u hu)
        · exact .inr h3
      · rcases F.reach v hm with h3 | ⟨q, h3, h4⟩
        · exact (V.reach v h3).imp id fun h4 => ⟨a, by simp, hs, h4⟩
        · exact .inr ⟨q, List.mem_cons_of_mem _ h3, h4⟩
      · rw [F.out, V.out]
        constructor
        · rintro ((h3 | ⟨k, h3, h4, h5⟩) | ⟨k, h3, h4, h5⟩)
          · exact .inl h3
          · exact .inr ⟨k, F.mono _ h3, h4, h5⟩
          · exact .inr ⟨k, h3, fun hm => h4 (V.mono _ hm), h5⟩
        · rintro (h3 | ⟨k, h3, h4, h5⟩)
          · exact .inl (.inl h3)
          · by_cases hk : (k, q) ∈ s1.1
            · exact .inl (.inr ⟨k, hk, h4, h5⟩)
            · exact .inr ⟨k, h3, hk, h5⟩
theorem visit_spec : ∀ (f : Nat) (x : Sit) (st st' : List Sit × List Parse), visit p gs child f x st = some st' → VSpec p gs child x st st'
  | 0, x, st, st', h => by cases h
  | f + 1, (c0, i, sp), st, st', h => by
    rw [visit] at h
    dsimp only at h
    have hc : (if p.hi < 0 ∧ p.lo < (c0 : Int) then p.lo.toNat else c0) = clampC p c0 := rfl
    rw [hc] at h
    obtain ⟨c, hcc⟩ : ∃ c, c = clampC p c0 := ⟨_, rfl⟩
    rw [← hcc] at h
    split at h
    · rename_i hm
      have := Option.some.inj h; subst this
      exact VSpec.done p gs child (by rw [← hcc]; exact hm)
    rename_i hm
    split at h
    · cases h
    rw [Option.bind_eq_some_iff] at h
    obtain ⟨st2, h1, h2⟩ := h
    have := Option.some.inj h2
    subst this
    have F : ∃ l, FSpec p gs child (c, i, sp) l (st.1 ++ [(c, i, sp)], st.2) st2 ∧ ((p.hi < 0 ∨ (c : Int) < p.hi) → ∃ l, child i (unset sp gs) = some l) ∧ (∀ u, Nxt p gs child (c, i, sp) u → ∃ q, q ∈ l ∧ ¬ (q.1 = i ∧ p.lo ≤ (c : Int)) ∧ u = (clampC p (c + 1), q)) ∧ (∀ q, q ∈ l → ¬ (q.1 = i ∧ p.lo ≤ (c : Int)) → Nxt p gs child (c, i, sp) (clampC p (c + 1), q)) := by
      split at h1
      · rename_i hg
        obtain ⟨l, h4, h5⟩ := Option.bind_eq_some_iff.1 h1
        refine ⟨l, fold_spec p gs child (fun x st st' => visit_spec f x st st') c i sp l _ _ h5, fun _ => ⟨l, h4⟩, fun u hu => ?_, fun q hq hn => ⟨hg, l, h4, q, hq, hn, rfl⟩⟩
        obtain ⟨-, l', hl', q, hq, hn, hu⟩ := hu
        have := Option.some.inj (hl'.symm.trans h4); subst this
        exact ⟨q, hq, hn, hu⟩
      · rename_i hg
        have := Option.some.inj h1; subst this
        exact ⟨[], ⟨fun _ h => h, (fun _ h => by cases h), fun _ h => .inl h, fun _ h => .inl h, fun q => ⟨.inl, fun h => h.elim id fun ⟨c, h1, h2, _⟩ => absurd h1 h2⟩, fun _ h => .inl h⟩, fun h => absurd h hg, fun u hu => absurd hu.1 hg, fun q hq => by cases hq⟩
    obtain ⟨l, F, hkid, hl1, hl2⟩ := F
    have hself : (c, i, sp) ∈ st2.1 := F.mono _ (by simp)
    have hclo : ∀ u, Nxt p gs child (c, i, sp) u → u ∈ st2.1 := fun u hu => by
      obtain ⟨q, hq, hn, rfl⟩ := hl1 u hu
      exact (F.all q hq).resolve_left hn
    have hold : ∀ v, v ∈ st.1 ++ [(c, i, sp)] ↔ v ∈ st.1 ∨ v = (c, i, sp) := fun v => by simp
    refine ⟨fun v h => F.mono v (by simp [h]), by rw [← hcc]; exact hself, fun v hv => ?_, fun v hv => ?_, fun q => ?_, fun v hv => ?_⟩
    rotate_left 3
    · rcases F.kid v hv with h3 | h3
      · rcases (hold v).1 h3 with h3 | rfl
        · exact .inl h3
        · exact .inr hkid
      · exact .inr h3
    rotate_left 0
    · rcases F.closed v hv with h3 | h3
      · rcases (hold v).1 h3 with h3 | rfl
        · exact .inl h3
        · exact .inr hclo
      · exact .inr h3
    · rcases F.reach v hv with h3 | ⟨q, h3, h4, h5⟩
      · rcases (hold v).1 h3 with h3 | rfl
        · exact .inl h3
        · exact .inr (by rw [← hcc]; exact .refl _)
      · exact .inr (by rw [← hcc]; exact .step (hl2 q h3 h4) h5)
    · dsimp only
      have hq0 : q ∈ st2.2 ↔ q ∈ st.2 ∨ ∃ k : Nat, (k, q) ∈ st2.1 ∧ ((k, q) ∉ st.1 ∧ (k, q) ≠ (c, i, sp)) ∧ p.lo ≤ (k : Int) := by
        rw [F.out]
        dsimp only
        refine or_congr Iff.rfl (exists_congr fun k => and_congr_right fun _ => and_congr_left fun _ => ?_)
        rw [hold, not_or]
      have hsplit : (q ∈ (if p.lo ≤ (c : Int) then st2.2 ++ [(i, sp)] else st2.2)) ↔ q ∈ st2.2 ∨ (p.lo ≤ (c : Int) ∧ q = (i, sp)) := by
        split
        · rename_i h; simp [h]
        · rename_i h; simp [h]
      rw [hsplit, hq0]
      constructor
      · rintro ((h3 | ⟨k, h3, h4, h5⟩) | ⟨h3, rfl⟩)
        · exact .inl h3
        · exact .inr ⟨k, h3, h4.1, h5⟩
        · exact .inr ⟨c, hself, hm, h3⟩
      · rintro (h3 | ⟨k, h3, h4, h5⟩)
        · exact .inl (.inl h3)
        · by_cases hk : (k, q) = (c, i, sp)
          · injection hk with hk1 hk2
            subst hk1
            exact .inr ⟨h5, hk2⟩
          · exact .inl (.inr ⟨k, h3, ⟨h4, hk⟩, h5⟩)
theorem Rch.stays {S : List Sit} (hS : ∀ v, v ∈ S → ∀ u, Nxt p gs child v u → u ∈ S) {v u : Sit} (h : Rch p gs child v u) (hv : v ∈ S) : u ∈ S := by
  induction h with
  | refl _ => exact hv
  | step h _ ih => exact ih (hS _ hv _ h)
theorem visit_all {f : Nat} {x : Sit} {st : List Sit × List Parse} (h : visit p gs child f x ([], []) = some st) :
    (∀ v, Rch p gs child (clampC p x.1, x.2) v → (p.hi < 0 ∨ (v.1 : Int) < p.hi) → ∃ l, child v.2.1 (unset v.2.2 gs) = some l) ∧ (∀ q, q ∈ st.2 ↔ ∃ c : Nat, Rch p gs child (clampC p x.1, x.2) (c, q) ∧ p.lo ≤ (c : Int)) := by
  have V := visit_spec p gs child f x _ _ h
  have h1 : ∀ v, v ∈ st.1 ↔ Rch p gs child (clampC p x.1, x.2) v := fun v =>
    ⟨fun hv => (V.reach v hv).resolve_left (by simp), fun hv => Rch.stays p gs child (fun u hu => (V.closed u hu).resolve_left (by simp)) hv V.self⟩
  refine ⟨fun v hv => (V.kid v ((h1 v).2 hv)).resolve_left (by simp), fun q => ?_⟩
  rw [V.out]
  constructor
  · rintro (h2 | ⟨c, h2, -, h3⟩)
    · cases h2
    · exact ⟨c, (h1 _).1 h2, h3⟩
  · rintro ⟨c, h2, h3⟩
    exact .inr ⟨c, (h1 _).2 h2, by simp, h3⟩
end
end Go.Proofs.Ythnpbopnpdlmnaa
