/- The program of layer 9: the stable sort of a row of parses. -/
import Derived.Test.YthnpbopnpdlmnaaDoorA29
import Derived.Laws.CopyRow
import Derived.Laws.MakeOwn
import Derived.Test.YthnpbopnpdlmnaaDoorA25
import Derived.Test.YthnpbopnpdlmnaaDoorA06
namespace Go.Proofs.YthnpbopnpdlmnaaDoor
open Go.RowKit
attribute [local go_sem] gives givesUpon

theorem pmerge_any : ∀ f, MergeC f
  | 0, w, b, n, c, more, X, A, B, Z, hf, h, hA, hB, _, _, _, _ => by
    have := List.length_pos_iff.2 hA
    omega
  | f + 1, w, b, n, c, more, X, A, B, Z, hf, h, hA, hB, hda, hdb, hn, hk => by
    by_cases h1 : A.length = 1
    · obtain ⟨x, rfl⟩ := List.length_eq_one_iff.1 h1
      exact pmerge_left w b n c more X B Z x h hdb hn hk
    by_cases h2 : B.length = 1
    · obtain ⟨x, rfl⟩ := List.length_eq_one_iff.1 h2
      exact pmerge_right w b n c more X A Z x h (by have := List.length_pos_iff.2 hA; omega) hda hn hk
    · exact pmerge_gen f (pmerge_any f) w b n c more X A B Z hf h (by have := List.length_pos_iff.2 hA; omega) (by have := List.length_pos_iff.2 hB; omega) hda hdb hn hk
def Runs (s : Nat) (rs : List (List Zel)) : Prop := ∀ r, r ∈ rs → r.length = s ∧ Desc zkey r
theorem Runs.len {s : Nat} : ∀ {rs : List (List Zel)}, Runs s rs → rs.flatten.length = rs.length * s
  | [], _ => by simp
  | r :: rs, h => by
    have := Runs.len (rs := rs) (fun q hq => h q (by simp [hq]))
    rw [List.flatten_cons, List.length_append, this, (h r (by simp)).1, List.length_cons, Nat.succ_mul]
    omega
theorem Runs.snoc {s : Nat} {rs : List (List Zel)} {r : List Zel} (h : Runs s rs) (hl : r.length = s) (hd : Desc zkey r) : Runs s (rs ++ [r]) := fun q hq => by
  rcases List.mem_append.1 hq with hq | hq
  · exact h q hq
  · rw [List.mem_singleton.1 hq]; exact ⟨hl, hd⟩
theorem flat_snoc (rs : List (List Zel)) (r : List Zel) : (rs ++ [r]).flatten = rs.flatten ++ r := by simp
def RunL (s : Nat) (L0 L : List Zel) : Prop := ∃ rs c, L = rs.flatten ++ c ∧ Runs s rs ∧ c.length < s ∧ Desc zkey c ∧ SameF zkey L0 L
theorem RunL.done {s : Nat} {L0 L : List Zel} (h : RunL s L0 L) (hs : L.length ≤ s) : Desc zkey L := by
  obtain ⟨rs, c, rfl, hr, hc, hd, _⟩ := h
  cases rs with
  | nil => simpa using hd
  | cons r rs =>
    have h1 := hr.len
    have h2 := hr r (by simp)
    rw [List.length_append, h1, List.length_cons, Nat.succ_mul] at hs
    have h3 : c = [] := List.eq_nil_of_length_eq_zero (by omega)
    have h4 : rs = [] := by
      cases rs with
      | nil => rfl
      | cons q rs => exfalso; rw [List.length_cons, Nat.succ_mul] at hs; omega
    subst h3; subst h4
    simpa using h2.2
theorem SrtAt.self {w0 w : World} {b n : Nat} {more : List Value} {L L' : List Zel} (h : SrtAt w0 b n more L w) (e : L = L') : SrtAt w b n more L' w := ⟨e ▸ h.1, But.refl _ _, e ▸ h.2.2.1, h.1.lt⟩
set_option maxRecDepth 100000 in
set_option maxHeartbeats 16000000 in
theorem pstable_any (w : World) (b n c' : Nat) (more : List Value) (L : List Zel) (h : SrtAt w b n more L w) (hn : n ≤ 200000) (hk : ∀ z, z ∈ L → z.1.1 ≤ 1000000) :
    Calls Tryd.prog 62 #[.slice (some ⟨b, 0, none⟩) n c', .int .i64 n, .func (.func 60) #[] #[]] w (SrtPost w b n more [] L []) := by
  have HH := hid h
  have HK := hid hk
  clear h hk
  go_enter Tryd.func62, Tryd.ntmps62
  go_wp2_with fail
  go_loopw [7, 8] (fun v7 v8 wr => ∃ (a d : Nat), v7 = .int .i64 a ∧ v8 = .int .i64 d ∧ a ≤ n ∧ d ≤ n + 20 ∧ Hid (d = a + 20 ∧ ∃ rs R, SrtAt w b n more (rs.flatten ++ R) wr ∧ Runs 20 rs ∧ rs.length * 20 = a ∧ SameF zkey L (rs.flatten ++ R))) (fun _ v8 _ => n + 20 - (intOf v8).toNat)
  case atStart => exact ⟨0, 20, rfl, rfl, by omega, by omega, rfl, [], L, by simpa using HH.out, (fun _ h => by cases h), rfl, by simpa using SameF.refl L⟩
  case round =>
    obtain ⟨a, d, rfl, rfl, hin, hdn, HX⟩ := hrel
    obtain ⟨hd, rs, R, h0, h1, h2, h3⟩ := HX.out
    have hfl := h1.len
    rw [h2] at hfl
    have hln := h0.2.2.1
    rw [List.length_append, hfl] at hln
    by_cases hlt : d ≤ n
    · have hltI : (d : Int) ≤ (n : Int) := by omega
      obtain ⟨r, R2, rfl, hr⟩ := cut_at R 20 (by omega)
      have hc := pinsert_any wr b n c' more rs.flatten r R2 (h0.self (by simp)) hn (fun z hz => HK.out z (h3.symm.mem (by simpa using hz)))
      rw [hfl, hr, ← hd] at hc
      have HC := hid hc
      have HG := hid (⟨h0, h1, h2, h3, hr, hd⟩ : _ ∧ _ ∧ _ ∧ _ ∧ _ ∧ _)
      clear hc h0 h1 h2 h3 hr hfl hln hd HX
      go_wp2_with fail
      refine HC.out.mono ?_
      rintro e z ⟨rfl, r', g0, g1, g2⟩
      have HN : Hid (∃ rs R, SrtAt w b n more (rs.flatten ++ R) z ∧ Runs 20 rs ∧ rs.length * 20 = d ∧ SameF zkey L (rs.flatten ++ R)) := by
        refine ⟨rs ++ [r'], R2, ?_, HG.out.2.1.snoc (by rw [← g2.length, HG.out.2.2.2.2.1]) g1, ?_, ?_⟩
        · rw [flat_snoc]; exact HG.out.1.trans g0
        · have := HG.out.2.2.1; have := HG.out.2.2.2.2.2; simp; omega
        · rw [flat_snoc]
          refine HG.out.2.2.2.1.trans ?_
          rw [← List.append_assoc]
          exact ((SameF.refl _).append g2).append (SameF.refl _)
      clear g0 g1 g2 HC HG
      go_wp2_with fail
      refine ⟨⟨d, d + 20, rfl, by go_num, by omega, by omega, rfl, HN.out⟩, ?_⟩
      simp [intOf] <;> omega
    · have hltI : ¬ (d : Int) ≤ (n : Int) := by omega
      have hc := pinsert_any wr b n c' more rs.flatten R [] (h0.self (by simp)) hn (fun z hz => HK.out z (h3.symm.mem (by simpa using hz)))
      rw [hfl, hln] at hc
      have HC := hid hc
      have HG := hid (⟨h0, h1, h3⟩ : _ ∧ _ ∧ _)
      have hRl : R.length < 20 := by omega
      clear hc h0 h1 h2 h3 hfl hln hd HX
      go_wp2_with fail
      refine HC.out.mono ?_
      rintro e z ⟨rfl, r', g0, g1, g2⟩
      have HN : Hid (∃ L', SrtAt w b n more L' z ∧ RunL 20 L L') := by
        refine ⟨rs.flatten ++ r', by simpa using HG.out.1.trans g0, rs, r', rfl, HG.out.2.1, by rw [← g2.length]; exact hRl, g1, ?_⟩
        exact HG.out.2.2.trans ((SameF.refl _).append g2)
      clear g0 g1 g2 HC HG
      go_wp2_with fail
      go_loopw [6] (fun v6 wr => ∃ (s : Nat), v6 = .int .i64 s ∧ 20 ≤ s ∧ s ≤ 400000 ∧ Hid (∃ L', SrtAt w b n more L' wr ∧ RunL s L L')) (fun v6 _ => 400000 - (intOf v6).toNat)
      case atStart => exact ⟨20, rfl, by omega, by omega, HN.out⟩
      case round =>
        obtain ⟨s, rfl, hs20, hs4, HS⟩ := hrel
        clear HN
        by_cases hsn : s < n
        · have hsnI : (s : Int) < (n : Int) := by omega
          have HST : Hid (∃ (qs rs : List (List Zel)) (c : List Zel), SrtAt w b n more (qs.flatten ++ (rs.flatten ++ c)) wr ∧ Runs (2 * s) qs ∧ qs.length * (2 * s) = 0 ∧ Runs s rs ∧ c.length < s ∧ Desc zkey c ∧ SameF zkey L (qs.flatten ++ (rs.flatten ++ c))) := by
            obtain ⟨L', k0, rs, c, rfl, k1, k2, k3, k4⟩ := HS.out
            exact ⟨[], rs, c, by simpa using k0, (fun _ h => by cases h), by simp, k1, k2, k3, by simpa using k4⟩
          clear HS
          go_wp2_with fail
          go_loopw [7, 8] (fun v7 v8 wr => ∃ (a d : Nat), v7 = .int .i64 a ∧ v8 = .int .i64 d ∧ a ≤ n ∧ d ≤ n + 2 * s ∧ Hid (d = a + 2 * s ∧ ∃ (qs rs : List (List Zel)) (c : List Zel), SrtAt w b n more (qs.flatten ++ (rs.flatten ++ c)) wr ∧ Runs (2 * s) qs ∧ qs.length * (2 * s) = a ∧ Runs s rs ∧ c.length < s ∧ Desc zkey c ∧ SameF zkey L (qs.flatten ++ (rs.flatten ++ c)))) (fun _ v8 _ => n + 2 * s - (intOf v8).toNat)
          case atStart => exact ⟨0, 2 * s, by go_num, by go_num, by omega, by omega, by omega, HST.out⟩
          case round =>
            obtain ⟨a, d, rfl, rfl, han, hdn, HY⟩ := hrel
            clear HST
            obtain ⟨hd, qs, rs, c, h0, h1, h2, h3, h4, h5, h6⟩ := HY.out
            have hfl := h1.len
            rw [h2] at hfl
            have hrl := h3.len
            have hln := h0.2.2.1
            rw [List.length_append, List.length_append, hfl, hrl] at hln
            by_cases hlt : d ≤ n
            · have hltI : (d : Int) ≤ (n : Int) := by omega
              obtain ⟨r1, r2, rs2, rfl⟩ : ∃ r1 r2 rs2, rs = r1 :: r2 :: rs2 := by
                match rs with
                | [] => simp at hln; omega
                | [r] => simp at hln; omega
                | r1 :: r2 :: rs2 => exact ⟨r1, r2, rs2, rfl⟩
              have l1 := h3 r1 (by simp)
              have l2 := h3 r2 (by simp)
              have hc := pmerge_any (2 * s) wr b n c' more qs.flatten r1 r2 (rs2.flatten ++ c) (by omega) (h0.self (by simp)) (fun e => by rw [e] at l1; simp at l1; omega) (fun e => by rw [e] at l2; simp at l2; omega) l1.2 l2.2 hn (fun z hz => HK.out z (h6.symm.mem (by simpa using hz)))
              rw [hfl, l1.1, l2.1, show a + s + s = d by omega, Int.natCast_add] at hc
              have HC := hid hc
              have HG := hid (⟨h0, h1, h2, h3, h4, h5, h6⟩ : _ ∧ _ ∧ _ ∧ _ ∧ _ ∧ _ ∧ _)
              have HL := hid (⟨l1, l2, hd⟩ : _ ∧ _ ∧ _)
              clear hc h0 h1 h2 h3 h4 h5 h6 hfl hrl hln hd HY l1 l2
              go_wp2_with fail
              refine HC.out.mono ?_
              rintro e z ⟨rfl, r', g0, g1, g2⟩
              have HN : Hid (∃ (qs rs : List (List Zel)) (c : List Zel), SrtAt w b n more (qs.flatten ++ (rs.flatten ++ c)) z ∧ Runs (2 * s) qs ∧ qs.length * (2 * s) = d ∧ Runs s rs ∧ c.length < s ∧ Desc zkey c ∧ SameF zkey L (qs.flatten ++ (rs.flatten ++ c))) := by
                refine ⟨qs ++ [r'], rs2, c, ?_, HG.out.2.1.snoc ?_ g1, ?_, fun q hq => HG.out.2.2.2.1 q (by simp [hq]), HG.out.2.2.2.2.1, HG.out.2.2.2.2.2.1, ?_⟩
                · rw [flat_snoc]; simpa using HG.out.1.trans g0
                · rw [← g2.length, List.length_append, HL.out.1.1, HL.out.2.1.1]; omega
                · rw [List.length_append, List.length_singleton, Nat.add_mul, HG.out.2.2.1, Nat.one_mul]; exact HL.out.2.2.symm
                · rw [flat_snoc]
                  refine HG.out.2.2.2.2.2.2.trans ?_
                  have e1 : qs.flatten ++ ((r1 :: r2 :: rs2).flatten ++ c) = qs.flatten ++ (r1 ++ r2) ++ (rs2.flatten ++ c) := by simp
                  rw [e1]
                  exact ((SameF.refl _).append g2).append (SameF.refl _)
              clear g0 g1 g2 HC HG
              go_wp2_with fail
              refine ⟨⟨d, d + 2 * s, rfl, by go_num, by omega, by omega, rfl, HN.out⟩, ?_⟩
              simp [intOf] <;> omega
            · have hltI : ¬ (d : Int) ≤ (n : Int) := by omega
              have hrs : (rs = [] ∧ n = a + c.length) ∨ ∃ r, rs = [r] := by
                match rs with
                | [] => left; simp at hln; exact ⟨rfl, by omega⟩
                | [r] => exact .inr ⟨r, rfl⟩
                | r1 :: r2 :: rs2 =>
                  exfalso
                  rw [List.length_cons, List.length_cons, Nat.succ_mul, Nat.succ_mul] at hln
                  omega
              have hcase : (¬ (a : Int) + (s : Int) < (n : Int) ∧ Hid (∃ L', SrtAt w b n more L' wr ∧ RunL (2 * s) L L')) ∨ ((a : Int) + (s : Int) < (n : Int) ∧ ∃ r, rs = [r] ∧ c ≠ []) := by
                rcases hrs with ⟨rfl, e1⟩ | ⟨r, rfl⟩
                · exact .inl ⟨by omega, qs.flatten ++ c, by simpa using h0, qs, c, rfl, h1, by omega, h5, by simpa using h6⟩
                · have l1 := h3 r (by simp)
                  by_cases hc0 : c = []
                  · subst hc0
                    refine .inl ⟨by simp at hln; omega, qs.flatten ++ r, by simpa using h0, qs, r, rfl, h1, by rw [l1.1]; omega, l1.2, by simpa using h6⟩
                  · have := List.length_pos_iff.2 hc0
                    refine .inr ⟨by simp at hln; omega, r, rfl, hc0⟩
              rcases hcase with ⟨hm, HN⟩ | ⟨hm, r, rfl, hc0⟩
              · clear h0 h1 h2 h3 h4 h5 h6 hfl hrl hln hd HY hrs
                go_wp2_with fail
                refine ⟨⟨2 * s, by go_num, by omega, by omega, HN.out⟩, ?_⟩
                simp [intOf] <;> omega
              · have l1 := h3 r (by simp)
                have hcn : a + s + c.length = n := by simp at hln; omega
                have hc := pmerge_any (2 * s) wr b n c' more qs.flatten r c [] (by omega) (h0.self (by simp)) (fun e => by rw [e] at l1; simp at l1; omega) hc0 l1.2 h5 hn (fun z hz => HK.out z (h6.symm.mem (by simpa using hz)))
                rw [hfl, l1.1, hcn, Int.natCast_add] at hc
                have HC := hid hc
                have HG := hid (⟨h0, h1, h4, h6, l1⟩ : _ ∧ _ ∧ _ ∧ _ ∧ _)
                clear hc h0 h1 h2 h3 h4 h5 h6 hfl hrl hln hd HY hrs l1 hcn hc0
                go_wp2_with fail
                refine HC.out.mono ?_
                rintro e z ⟨rfl, r', g0, g1, g2⟩
                have HN : Hid (∃ L', SrtAt w b n more L' z ∧ RunL (2 * s) L L') := by
                  refine ⟨qs.flatten ++ r', by simpa using HG.out.1.trans g0, qs, r', rfl, HG.out.2.1, ?_, g1, ?_⟩
                  · have := HG.out.2.2.1
                    rw [← g2.length, List.length_append, HG.out.2.2.2.2.1]; omega
                  · refine HG.out.2.2.2.1.trans ?_
                    have e1 : qs.flatten ++ (([r] : List (List Zel)).flatten ++ c) = qs.flatten ++ (r ++ c) := by simp
                    rw [e1]
                    exact (SameF.refl _).append g2
                clear g0 g1 g2 HC HG
                go_wp2_with fail
                refine ⟨⟨2 * s, by go_num, by omega, by omega, HN.out⟩, ?_⟩
                simp [intOf] <;> omega
        · have hsnI : ¬ (s : Int) < (n : Int) := by omega
          have HF : Hid (SrtPost w b n more [] L [] (.returned (.tuple #[])) wr) := by
            obtain ⟨L', k0, k1⟩ := HS.out
            have k2 := k1.done (by rw [k0.2.2.1]; omega)
            obtain ⟨rs, c, rfl, _, _, _, k3⟩ := k1
            exact ⟨rfl, _, by simpa using k0, k2, k3⟩
          clear HS
          go_wp2_with fail
          go_end0
          exact HF.out
set_option maxRecDepth 100000 in
set_option maxHeartbeats 4000000 in
theorem pinsert_nil (w : World) : Calls Tryd.prog 64 #[.slice none 0 0, .int .i64 0, .int .i64 0, .func (.func 60) #[] #[]] w fun e w' => e = .returned (.tuple #[]) ∧ w' = w := by
  go_enter Tryd.func64, Tryd.ntmps64
  go_wp2_with fail
  go_loopw [8] (fun v8 wr => v8 = .int .i64 1 ∧ wr = w) (fun v8 _ => 0)
  case atStart => exact ⟨rfl, rfl⟩
  case round =>
    obtain ⟨rfl, rfl⟩ := hrel
    go_wp2_with fail
    go_end0
    exact ⟨rfl, rfl⟩
set_option maxRecDepth 100000 in
set_option maxHeartbeats 4000000 in
theorem pstable_nil (w : World) : Calls Tryd.prog 62 #[.slice none 0 0, .int .i64 0, .func (.func 60) #[] #[]] w fun e w' => e = .returned (.tuple #[]) ∧ w' = w := by
  have HI := hid (pinsert_nil w)
  go_enter Tryd.func62, Tryd.ntmps62
  go_wp2_with fail
  go_loopw [7, 8] (fun v7 v8 wr => v7 = .int .i64 0 ∧ v8 = .int .i64 20 ∧ wr = w) (fun v7 v8 _ => 0)
  case atStart => exact ⟨rfl, rfl, rfl⟩
  case round =>
    obtain ⟨rfl, rfl, rfl⟩ := hrel
    go_wp2_with fail
    refine HI.out.mono ?_
    rintro e z ⟨rfl, rfl⟩
    clear HI
    go_wp2_with fail
    go_loopw [6] (fun v6 wr => v6 = .int .i64 20 ∧ wr = z) (fun v6 _ => 0)
    case atStart => exact ⟨rfl, rfl⟩
    case round =>
      obtain ⟨rfl, rfl⟩ := hrel
      go_wp2_with fail
      go_end0
      exact ⟨rfl, rfl⟩
set_option maxRecDepth 100000 in
set_option maxHeartbeats 4000000 in
theorem psortS_nil (w : World) : Calls Tryd.prog 59 #[.slice none 0 0, .func (.func 60) #[] #[]] w fun e w' => e = .returned (.tuple #[]) ∧ w' = w := by
  have HI := hid (pstable_nil w)
  go_enter Tryd.func59, Tryd.ntmps59
  go_wp2_with fail
  refine HI.out.mono ?_
  rintro e z ⟨rfl, rfl⟩
  clear HI
  go_wp2_with fail
  go_end0
  exact ⟨rfl, rfl⟩
set_option maxRecDepth 100000 in
set_option maxHeartbeats 4000000 in
theorem psortS_any (w : World) (b n c : Nat) (more : List Value) (L : List Zel) (h : SrtAt w b n more L w) (hn : n ≤ 200000) (hk : ∀ z, z ∈ L → z.1.1 ≤ 1000000) :
    Calls Tryd.prog 59 #[.slice (some ⟨b, 0, none⟩) n c, .func (.func 60) #[] #[]] w (SrtPost w b n more [] L []) := by
  have HI := hid (pstable_any w b n c more L h hn hk)
  clear h hk
  go_enter Tryd.func59, Tryd.ntmps59
  go_wp2_with fail
  refine HI.out.mono ?_
  rintro e z ⟨rfl, hz⟩
  have HZ := hid hz
  clear hz HI
  go_wp2_with fail
  go_end0
  exact ⟨rfl, HZ.out⟩
end Go.Proofs.YthnpbopnpdlmnaaDoor

/- The program of layer 9: parses sorted, each once. -/
namespace Go.Proofs.YthnpbopnpdlmnaaDoor
open Go.RowKit
attribute [local go_sem] gives givesUpon

def zval (z : Zel) : Value := .slice z.2.1 z.2.2.1 z.2.2.2
theorem zel_of : ∀ {w : World} (L : List (Parse × Value)), PL w L → ∃ M : List Zel, M.flatMap zcell = L.flatMap pcell ∧ M.map Prod.fst = L.map Prod.fst ∧ ∀ z, z ∈ M → SpQ w (zval z) z.1.2
  | _, [], _ => ⟨[], rfl, rfl, fun _ h => by cases h⟩
  | w, (q, v) :: L, h => by
    obtain ⟨M, h1, h2, h3⟩ := zel_of L (fun x hx => h x (by simp [hx]))
    have h0 : SpQ w v q.2 := h (q, v) (by simp)
    obtain ⟨a, c, rfl⟩ := h0.form
    refine ⟨(q, a, q.2.length, c) :: M, ?_, ?_, fun z hz => ?_⟩
    · rw [List.flatMap_cons, List.flatMap_cons, h1]; rfl
    · rw [List.map_cons, List.map_cons, h2]
    · rcases List.mem_cons.1 hz with rfl | hz
      · exact h0
      · exact h3 z hz
theorem ps_of {w : World} {b c n : Nat} {more : List Value} {M : List Zel} {p : Nat → Prop} (h0 : M ≠ []) (hn : n = M.length) (hp : p b) (hr : Row w b (M.flatMap zcell ++ more) 71) (hs : ∀ z, z ∈ M → SpQ w (zval z) z.1.2) : PsQ p w (.slice (some ⟨b, 0, none⟩) n c) (M.map Prod.fst) := by
  refine .inr ⟨by simpa using h0, b, c, more, M.map (fun z => (z.1, zval z)), by rw [hn, List.length_map], hp, by rw [List.map_map]; rfl, fun x hx => ?_, ?_⟩
  · obtain ⟨z, hz, rfl⟩ := List.mem_map.1 hx
    exact hs z hz
  · have e : (M.map fun z => (z.1, zval z)).flatMap pcell = M.flatMap zcell := by rw [List.flatMap_map]; rfl
    rw [e]; exact hr
theorem zcell_one : ∀ (M : List Zel) (u : Value), u ∈ M.flatMap zcell → u.oneCell' = true := fun M u hu => by
  obtain ⟨z, _, hu⟩ := List.mem_flatMap.1 hu
  simp [zcell] at hu
  rcases hu with rfl | rfl <;> rfl
def CloP (w : World) (M : List Zel) (e : Ending) (w' : World) : Prop := ∃ b c more, e = .returned (.slice (some ⟨b, 0, none⟩) M.length c) ∧ w.heap.size ≤ b ∧ Row w' b (M.flatMap zcell ++ more) 71 ∧ Below w.heap.size w w'
set_option maxRecDepth 100000 in
set_option maxHeartbeats 8000000 in
theorem pclone_nil (w : World) : Calls Tryd.prog 58 #[.slice none 0 0] w fun e w' => e = .returned (.slice none 0 0) ∧ w' = w := by
  have hcmp : ∀ x : World, Sem.run Tryd.prog (binOp .eql 39 (.slice none 0 0) (.slice none 0 0)) x = .ok (.bool true) x := fun x => rfl
  go_enter Tryd.func58, Tryd.ntmps58
  go_wp2_with fail
  go_ret
  exact ⟨rfl, rfl⟩
set_option maxRecDepth 100000 in
set_option maxHeartbeats 8000000 in
theorem pclone_any (w : World) (b c n : Nat) (M : List Zel) (more : List Value) (hn : n = M.length) (h0 : M ≠ []) (hl : n ≤ 200000) (hr : Row w b (M.flatMap zcell ++ more) 71) :
    Calls Tryd.prog 58 #[.slice (some ⟨b, 0, none⟩) n c] w (CloP w M) := by
  obtain ⟨i0, hi, hz0, hz1, hz2⟩ := info_parts info_parse
  have hpos : 0 < n := by rw [hn]; exact List.length_pos_iff.2 h0
  have HR := hid hr
  have HN := hid hn
  clear hr hn h0
  have hcmp : ∀ x : World, Sem.run Tryd.prog (binOp .eql 39 (.slice (some ⟨b, 0, none⟩) n c) (.slice none 0 0)) x = .ok (.bool false) x := fun x => rfl
  go_enter Tryd.func58, Tryd.ntmps58
  go_wp2_with (at_builtin; refine wpList_append_row rfl _ _ 39 rfl w.heap.size 71 i0 (.agg #[.int .i64 0, .slice none 0 0]) 2 32 Tryd.underlying39 hi hz0 hz1 hz2 rfl (by decide) _ 0 [] rfl ?c0 ⟨b, 0, none⟩ n c (M.flatMap zcell) rfl ?c6 ?c1 ?c2 ?c3 ?c4 ?c5 hpos ?_)
  case c0 => exact World.ownsRow_made w #[] 0 (Nat.le_refl _) (by unfold maxLen; omega) rfl
  case c1 =>
    intro j u hj
    rw [Addr.add_lit, Nat.zero_add, (HR.out.alloc _).cell j]
    exact List.getElem?_append_left (List.getElem?_eq_some_iff.1 hj).1 ▸ hj
  case c2 => exact zcell_one M
  case c3 => unfold maxLen; omega
  case c4 => omega
  case c5 => simp
  case c6 => rw [zcells_length, HN.out]
  intro a2 c2 w3 hown hgrow hnw
  have hb3 : Below w.heap.size w w3 := ((Below.refl w.heap.size w).alloc (Nat.le_refl _) _).grown hgrow (by simp) (fun g hg => by simp [Value.ownBlock] at hg; omega)
  have hres : CloP w M (.returned (.slice a2 n c2)) w3 := by
    obtain ⟨_, h1 | ⟨g, cap, cur, hv, hg, hcur, hr⟩⟩ := hown
    · have := h1.2; omega
    · injection hv with e1 e2 e3
      subst e1
      obtain ⟨_, _, _, h4⟩ := hr
      refine ⟨g, c2, cur.toList.drop (n * 2), by rw [HN.out], hg, ?_, hb3⟩
      have e : M.flatMap zcell ++ cur.toList.drop (n * 2) = cur.toList := by
        rw [← h4]
        exact List.take_append_drop _ _
      unfold Row
      rw [e]
      exact hcur
  have HB3 := hid hres
  clear hown hgrow hnw hb3 hres
  go_wp2_with fail
  go_ret
  exact HB3.out
set_option maxRecDepth 100000 in
set_option maxHeartbeats 8000000 in
theorem psorted_any (w : World) (p : Nat → Prop) (v : Value) (l : List Parse) (K : Nat) (h : PsQ p w v l) (hl : l.length ≤ 200000) (hf : ∀ q, q ∈ l → PFine q) (hK : ∀ q, q ∈ l → q.1 ≤ K) (ht : Tabs9 w) :
    Calls Tryd.prog 52 #[v] w (ParP w (fin K l)) := by
  rcases h with ⟨rfl, rfl⟩ | ⟨h0, b, c, more, L, rfl, hp, hL, hPL, hr⟩
  · have HC := hid (pclone_nil w)
    have HS := hid (psortS_nil w)
    have ho := ponce_any w p (.slice none 0 0) [] (.inl ⟨rfl, rfl⟩) (by simp) (fun _ h => by cases h) ht
    have hor : onceR [] = some [] := by unfold onceR; simp [nub, most]
    rw [hor] at ho
    have HO := hid ho
    have hfn : fin K [] = some [] := by
      rw [fin_sort (fun _ h => by cases h)]
      have : sortP K [] = [] := by unfold sortP; simp
      rw [this]
      exact hor
    rw [hfn]
    clear ho hor hfn
    clear ht hf hK hl
    go_enter Tryd.func52, Tryd.ntmps52
    go_wp2_with fail
    refine HC.out.mono ?_
    rintro e z ⟨rfl, rfl⟩
    clear HC
    go_wp2_with fail
    refine HS.out.mono ?_
    rintro e z2 ⟨rfl, rfl⟩
    clear HS
    go_wp2_with fail
    refine HO.out.mono ?_
    rintro e z3 ⟨hb, a2, c2, rfl, h3⟩
    have HB := hid (⟨hb, h3⟩ : _ ∧ _)
    clear hb h3 HO
    go_wp2_with fail
    go_ret
    exact ⟨HB.out.1, a2, c2, rfl, HB.out.2⟩
  · obtain ⟨M, hM1, hM2, hM3⟩ := zel_of L hPL
    rw [← hM1] at hr
    rw [hL] at hM2
    have hlen : l.length = M.length := by rw [← hM2, List.length_map]
    obtain ⟨n, hn⟩ : ∃ n, n = l.length := ⟨_, rfl⟩
    rw [← hn] at hl ⊢
    have hM0 : M ≠ [] := by intro e; rw [e] at hM2; exact h0 hM2.symm
    have HC := hid (pclone_any w b c n M more (hn.trans hlen) hM0 hl hr)
    have HF := hid (⟨hf, hK, hM2, hM3, hM0, hn.trans hlen⟩ : _ ∧ _ ∧ _ ∧ _ ∧ _ ∧ _)
    have HT := hid ht
    clear hf hK hM1 hM2 hM3 hr hlen hn hM0 h0 hL hPL ht
    go_enter Tryd.func52, Tryd.ntmps52
    go_wp2_with fail
    refine HC.out.mono ?_
    rintro e z ⟨b2, c2, more2, rfl, hb2, hr2, hbz⟩
    rw [← HF.out.2.2.2.2.2]
    have hmem : ∀ y, y ∈ M → y.1 ∈ l := fun y hy => by rw [← HF.out.2.2.1]; exact List.mem_map_of_mem hy
    have hk6 : ∀ y, y ∈ M → y.1.1 ≤ 1000000 := fun y hy => (HF.out.1 y.1 (hmem y hy)).2.1
    have HS := hid (psortS_any z b2 n c2 more2 M ⟨hr2, But.refl _ _, HF.out.2.2.2.2.2.symm, hr2.lt⟩ hl hk6)
    have HZ := hid (⟨hb2, hbz, hmem⟩ : _ ∧ _ ∧ _)
    clear hb2 hr2 hbz hmem hk6 HC
    go_wp2_with fail
    refine HS.out.mono ?_
    rintro e z2 ⟨rfl, Y, hz2, hd2, hs2⟩
    simp only [List.nil_append, List.append_nil] at hz2
    have hb2' : Below w.heap.size w z2 := HZ.out.2.1.trans (hz2.2.1.below HZ.out.2.1.size (fun k hk => by rw [List.mem_singleton.1 hk]; exact HZ.out.1))
    have hYM : ∀ y, y ∈ Y → y ∈ M := fun y hy => hs2.symm.mem hy
    have hsort : Y.map Prod.fst = sortP K l := by
      refine sortP_of ?_ (fun e => ?_) (fun q hq => ?_)
      · exact List.pairwise_map.2 (hd2.imp fun {a b} h => by unfold zkey at h; omega)
      · have h5 := hs2 (e : Int)
        rw [← HF.out.2.2.1, List.filter_map, List.filter_map]
        have e1 : ((fun q : Parse => q.1 == e) ∘ Prod.fst) = fun x : Zel => zkey x == (e : Int) := by
          funext x
          show (x.1.1 == e) = ((x.1.1 : Int) == (e : Int))
          rw [Bool.eq_iff_iff]
          simp
          constructor <;> intro h <;> omega
        rw [e1, h5]
      · obtain ⟨y, hy, rfl⟩ := List.mem_map.1 hq
        exact HF.out.2.1 y.1 (HZ.out.2.2 y (hYM y hy))
    have hps : PsQ (fun _ => True) z2 (.slice (some ⟨b2, 0, none⟩) n c2) (Y.map Prod.fst) := by
      refine ps_of (by intro e; have := hs2.length; rw [e] at this; exact HF.out.2.2.2.2.1 (List.eq_nil_of_length_eq_zero this)) (by rw [← hs2.length]; exact HF.out.2.2.2.2.2) trivial hz2.1 (fun y hy => ?_)
      have h6 := HF.out.2.2.2.1 y (hYM y hy)
      exact h6.of fun b3 cs3 hr3 => (hr3.below HZ.out.2.1 hr3.lt).but hz2.2.1 (fun hm3 => by
        have h8 := hr3.lt
        rw [List.mem_singleton.1 hm3] at h8
        have := HZ.out.1
        omega)
    rw [hsort] at hps
    have hfi : fin K l = onceR (sortP K l) := fin_sort HF.out.2.1
    have hsm : ∀ q, q ∈ sortP K l → PFine q := fun q hq => HF.out.1 q (sortP_mem.1 hq).1
    have hsl : (sortP K l).length ≤ 200000 := by rw [← hsort, List.length_map, ← hs2.length, ← HF.out.2.2.2.2.2]; exact hl
    have HO := hid (ponce_any z2 _ _ (sortP K l) hps hsl hsm (HT.out.on hb2'))
    have HB2 := hid hb2'
    have HFI := hid hfi
    clear hz2 hd2 hs2 hb2' hYM hsort hps hfi hsm hsl HS
    go_wp2_with fail
    refine HO.out.mono ?_
    rintro e z3 ⟨hb, hres⟩
    have HB := hid (HB2.out.trans (hb.mono HB2.out.size))
    have hsz := HB2.out.size
    have HRS := hid hres
    clear hb hres HO
    cases hor : onceR (sortP K l) with
    | none =>
      have h2 := HRS.out
      rw [hor] at h2
      subst h2
      refine ⟨rfl, ?_⟩
      rw [HFI.out, hor]
      exact ⟨HB.out, rfl⟩
    | some m =>
      have h2 := HRS.out
      rw [hor] at h2
      obtain ⟨a3, c3, rfl, h3⟩ := h2
      have HOR := hid hor
      have H3 := hid (h3.mono (q := (w.heap.size ≤ ·)) fun b8 _ hb8 => Nat.le_trans hsz hb8)
      clear h3 hor HRS
      go_wp2_with fail
      go_ret
      rw [HFI.out, HOR.out]
      exact ⟨HB.out, a3, c3, rfl, H3.out⟩
end Go.Proofs.YthnpbopnpdlmnaaDoor

/- The program of layer 9: a span put into spans. -/
namespace Go.Proofs.YthnpbopnpdlmnaaDoor
open Go.RowKit
attribute [local go_sem] gives givesUpon

theorem run_copy_two {P : Program} (w : World) (dT sT ty elem : TypeId) (g dLen dCap : Nat) (a : Addr) (sLen sCap : Nat) (cur : Array Value) (t : TypeId) (cs : List Value)
    (hu : P.underlying dT = some (.slice elem)) (hs : (P.info? elem).map (·.size) = some 2)
    (hg : w.heap[g]? = some (.cells cur t (0, 0))) (hn : cs.length = Nat.min sLen dLen * 2)
    (hsrc : ∀ j v, cs[j]? = some v → w.cell? (a.add j) = some v) (hfit : cs.length ≤ cur.size) (h1 : ∀ v ∈ cs, v.oneCell' = true) :
    (Builtin.copy_ #[dT, sT] ty #[.slice (some ⟨g, 0, none⟩) dLen dCap, .slice (some a) sLen sCap]).run P w =
      .ok (goInt (Nat.min sLen dLen)) (w.setRow g (cur.toList.take 0 ++ cs ++ cur.toList.drop (0 + cs.length)).toArray) := by
  have hl := run_loadCells_list (P := P) w a cs hsrc
  have hst := run_storeCells_at P g 0 t cs 0 cur w hg (by simpa using hfit) h1
  cases hq : P.info? elem with
  | none => simp [hq] at hs
  | some i =>
    have hi : i.size = 2 := by simpa [hq] using hs
    simp [Builtin.copy_, run_underlying hu, Builtin.lenOf, Builtin.firstCells, sizeOf, typeInfo, hq, hi, ← hn, hl]
    simp at hst
    simp [hst]
theorem wpList_copy_two {P : Program} {w : World} {ops : Array Oper} {rest : List Oper} {o : Oper} {a : Act} {Q : Exit → Act → World → Prop} (hgd : o.guard = none) (d s : Operand) (dT sT : TypeId)
    (ho : o.op = .call { callee := .builtin .copy, args := #[d, s], argTypes := #[dT, sT] }) (elem : TypeId) (hu : P.underlying dT = some (.slice elem)) (hsz : (P.info? elem).map (·.size) = some 2)
    (g n dCap : Nat) (ad : Addr) (sCap : Nat) (hd : a.eval d = .slice (some ⟨g, 0, none⟩) n dCap) (hs : a.eval s = .slice (some ad) n sCap)
    (cur : List Value) (t : TypeId) (hg : Row w g cur t) (cs : List Value) (hn : cs.length = n * 2) (hsrc : ∀ j v, cs[j]? = some v → w.cell? (ad.add j) = some v) (hfit : cs.length = cur.length) (h1 : ∀ v ∈ cs, v.oneCell' = true)
    (h : ∀ w', Row w' g cs t → But [g] w w' → wpList P ops Q rest (a.put o.dst (goInt n)) w') : wpList P ops Q (o :: rest) a w := by
  refine wpList_plain hgd fun K hK => ?_
  have hmin : Nat.min n n = n := Nat.min_self n
  have hrun := run_copy_two (P := P) w dT sT o.type elem g n dCap ad n sCap cur.toArray t cs hu hsz hg (by rw [hmin]; exact hn) hsrc (by simp [hfit]) h1
  rw [hmin] at hrun
  have hcs : (cur.toArray.toList.take 0 ++ cs ++ cur.toArray.toList.drop (0 + cs.length)) = cs := by
    rw [List.take_zero, List.nil_append, Nat.zero_add, List.drop_of_length_le (by simp [hfit]), List.append_nil]
  rw [hcs] at hrun
  have hlt := hg.lt
  have hgg : w.heap[g]? = some (.cells cur.toArray t (0, 0)) := hg
  unfold Oper.wp
  simp [execOp, ho, resolve, invoke, builtin, hd, hs, hrun, Result.andThen]
  refine hK _ _ (h _ ?_ ⟨rfl, rfl, rfl, by simp [World.setRow], fun k hk hk2 => ?_⟩)
  · show (w.setRow g cs.toArray).heap[g]? = _
    simp [World.setRow, Array.getElem?_modify, hgg]
  · have hne : g ≠ k := by simpa using Ne.symm (by simpa using hk2)
    simp [World.setRow, Array.getElem?_modify, hne]
set_option maxRecDepth 100000 in
set_option maxHeartbeats 8000000 in
theorem pwith_any (w : World) (sa : Option Addr) (sc : Nat) (sp : Spans) (g : Nat) (x1 x2 : Int) (hsp : SpQ w (.slice sa sp.length sc) sp) (hl : sp.length ≤ 9) (hg : 1 ≤ g ∧ g ≤ sp.length) :
    Calls Tryd.prog 49 #[.slice sa sp.length sc, .int .i64 g, .agg #[.int .i64 x1, .int .i64 x2]] w fun e w' => ∃ a c, e = .returned (.slice a sp.length c) ∧ Below w.heap.size w w' ∧ SpQ w' (.slice a sp.length c) (sp.set (g - 1) (x1, x2)) := by
  obtain ⟨a0, c0, e0, h1 | ⟨b, more, rfl, hr⟩⟩ := hsp
  · subst h1; simp at hg; omega
  obtain ⟨n, hn⟩ : ∃ n, n = sp.length := ⟨_, rfl⟩
  rw [← hn] at hg hl e0 ⊢
  injection e0 with e1 e2 e3
  subst e1; subst e3
  clear e2
  obtain ⟨i0, hi, hz0, hz1, hz2⟩ := info_parts info_span
  have hisz : (Tryd.prog.info? 74).map (·.size) = some 2 := by rw [hi]; simp [hz1]
  have hmk : ∀ y : World, (Instr.makeSlice 69 (.int .i64 (n : Int)) (.int .i64 (n : Int))).run Tryd.prog y = .ok (.slice (some ⟨y.heap.size, 0, none⟩) n n) (y.alloc (.cells (madeCells #[.int .i64 0, .int .i64 0] (n * 2)) 74)) := fun y => by
    have h := run_makeSlice (P := Tryd.prog) y 69 74 i0 _ Tryd.underlying69 hi hz0 .i64 .i64 n n (by omega) (by omega) (by rw [hz1]; simp; omega) (by rw [hz2]; omega) (by omega)
    rw [hz1] at h
    simpa [Value.cells] using h
  obtain ⟨zs, hzs⟩ : ∃ zs : List Value, madeCells #[.int .i64 0, .int .i64 0] (n * 2) = zs.toArray := ⟨(madeCells #[.int .i64 0, .int .i64 0] (n * 2)).toList, by simp⟩
  have hzl : zs.length = n * 2 := by
    have := size_madeCells #[.int .i64 0, .int .i64 0] (n * 2)
    rw [hzs] at this
    simpa using this
  rw [hzs] at hmk
  have HR := hid hr
  have HZ := hid (⟨hzl, hn⟩ : _ ∧ _)
  have hgn : (1 : Int) ≤ (g : Int) ∧ (g : Int) ≤ (n : Int) := by omega
  obtain ⟨q, rfl⟩ : ∃ q, g = q + 1 := ⟨g - 1, by omega⟩
  have hqn : (q : Int) < (n : Int) := by omega
  have hq1 : (1 : Int) ≤ (q : Int) + 1 := by omega
  have hq2 : (q : Int) + 1 ≤ (n : Int) := by omega
  have hwq : IntKind.i64.wrap (q : Int) = (q : Int) := by rw [IntKind.wrap_i64]; omega
  clear hr hn hzl hi hz0 hz1 hz2 hgn
  go_enter Tryd.func49, Tryd.ntmps49
  go_wp2_with (with_reducible refine wpList_copy_two rfl _ _ 69 69 rfl 74 Tryd.underlying69 hisz (w.heap.size + 1) n n ⟨b, 0, none⟩ sc rfl rfl zs 74 ?c0 (spc sp) ?c1 ?c2 ?c3 (spc_one sp) ?_)
  case c0 => exact Row.new (by simp)
  case c1 => rw [spc_length, HZ.out.2]
  case c2 =>
    intro j u hj
    rw [Addr.add_lit, Nat.zero_add, ((HR.out.alloc _).alloc _).cell j]
    exact List.getElem?_append_left (List.getElem?_eq_some_iff.1 hj).1 ▸ hj
  case c3 => rw [spc_length, HZ.out.1, HZ.out.2]
  intro w3 hrow hbut
  have hbox : Row w3 w.heap.size [.int .i64 x1, .int .i64 x2] 74 := (((Row.new (w := w) (cs := [.int .i64 x1, .int .i64 x2]) (T := 74) rfl).alloc (.cells zs.toArray 74))).but hbut (by simp)
  have hb3 : Below w.heap.size w w3 := (((Below.refl w.heap.size w).alloc (Nat.le_refl _) _).alloc (by simp) _).trans (hbut.below (by simp; omega) (fun k hk => by rw [List.mem_singleton.1 hk]; omega))
  have HB3 := hid (⟨hbox, hrow, hb3⟩ : _ ∧ _ ∧ _)
  have q0 := hbox.cell 0
  have q1 := hbox.cell 1
  have hql : q < sp.length := by have := HZ.out.2; omega
  obtain ⟨g1, g2⟩ := spc_get sp q sp[q] (List.getElem?_eq_getElem hql)
  rw [show 2 * q = q * 2 by omega] at g1 g2
  have q3 := (hrow.cell (q * 2)).trans g1
  have q4 := (hrow.cell (q * 2 + 1)).trans g2
  have f0 := hrow.free (q * 2)
  have f1 := hrow.free (q * 2 + 1)
  have hres : Below w.heap.size w ((w3.setCell ⟨w.heap.size + 1, q * 2, none⟩ (.int .i64 x1)).setCell ⟨w.heap.size + 1, q * 2 + 1, none⟩ (.int .i64 x2)) ∧ SpQ ((w3.setCell ⟨w.heap.size + 1, q * 2, none⟩ (.int .i64 x1)).setCell ⟨w.heap.size + 1, q * 2 + 1, none⟩ (.int .i64 x2)) (.slice (some ⟨w.heap.size + 1, 0, none⟩) n n) (sp.set q (x1, x2)) := by
    refine ⟨(hb3.setCell (by simp) _).setCell (by simp) _, _, _, by rw [List.length_set, ← HZ.out.2], .inr ⟨_, [], rfl, ?_⟩⟩
    have h5 := (hrow.set (q * 2) (.int .i64 x1)).set (q * 2 + 1) (.int .i64 x2)
    rw [List.append_nil, spc_set, show 2 * q = q * 2 by omega]
    exact h5
  have HRES := hid hres
  clear hbox hrow hb3 hbut g1 g2 hres
  generalize sp[q].1 = o0 at q3
  generalize sp[q].2 = o1 at q4
  clear hql
  go_wp2_with fail
  go_ret
  exact ⟨_, _, rfl, HRES.out.1, by simpa using HRES.out.2⟩
end Go.Proofs.YthnpbopnpdlmnaaDoor

/- The reference of the parses: spans without those of the groups within a tree. -/
namespace Go.Proofs.YthnpbopnpdlmnaaDoor
open Go.RowKit
attribute [local go_sem] gives givesUpon

theorem Re.oks_get9 {N : Nat} : ∀ {xs : List Re} (_ : Re.oks N xs) (k : Nat) (h : k < xs.length), xs[k].ok N
  | x :: xs, h, 0, _ => by rw [Re.oks] at h; exact h.1
  | x :: xs, h, k + 1, hk => by rw [Re.oks] at h; exact Re.oks_get9 h.2 k (by simpa using hk)
theorem withinAll_app9 : ∀ a b : List Re, withinAll (a ++ b) = withinAll a ++ withinAll b
  | [], b => by simp [withinAll]
  | x :: a, b => by simp [withinAll, withinAll_app9 a b]
theorem withinAll_step (xs : List Re) (k : Nat) (h : k < xs.length) : withinAll (xs.take (k + 1)) = withinAll (xs.take k) ++ withinOf xs[k] := by
  rw [List.take_add_one, List.getElem?_eq_getElem h, withinAll_app9]
  simp [withinAll]
theorem unset_len (gs : List Nat) : ∀ sp : Spans, (unset sp gs).length = sp.length := by
  induction gs with
  | nil => intro sp; rfl
  | cons g gs ih => intro sp; show (unset (sp.set (g - 1) (-1, -1)) gs).length = _; rw [ih]; simp

end Go.Proofs.YthnpbopnpdlmnaaDoor
