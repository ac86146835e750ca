/- Reback: check, At and Search. -/
import Derived.Test.YtnnocekencaadaaG32
import Derived.Test.YtnnocekencaadaaG33
import Derived.Test.YtnnocekencaadaaG34
namespace Go.Proofs.Ytnnocekencaadaa
open Go.RowKit
attribute [local go_sem] gives givesUpon

theorem shaped_ok {p : Pay} {n : Nat} (h : p.shaped n = true) : (1 ≤ p.op ∧ p.op ≤ 9) ∧ (p.op = 3 ∨ p.op = 4 → 2 ≤ n) ∧ (p.op = 5 ∨ p.op = 6 → n = 1) := by
  unfold Pay.shaped at h
  split at h
  · rename_i h1; refine ⟨by omega, fun h => by omega, fun h => by omega⟩
  split at h
  · rename_i h1; refine ⟨by omega, fun h => by omega, fun h => by omega⟩
  split at h
  · rename_i h1
    simp only [Bool.and_eq_true, decide_eq_true_eq] at h
    refine ⟨by omega, fun _ => h.1.1.1, fun h => by omega⟩
  split at h
  · rename_i h1
    simp only [Bool.and_eq_true, decide_eq_true_eq] at h
    refine ⟨by omega, fun h => by omega, fun _ => h.1.1⟩
  split at h
  · rename_i h1
    simp only [Bool.and_eq_true, decide_eq_true_eq] at h
    refine ⟨by omega, fun h => by omega, fun _ => h.1.1⟩
  split at h
  · rename_i h1; refine ⟨by omega, fun h => by omega, fun h => by omega⟩
  · cases h
mutual
theorem Re.ok_aux (N : Nat) : ∀ (t : Re) (b n : Nat) (l l' : List Int), t.typed = true → t.ranged b = some n → t.named l = some l' → n ≤ N → (∀ g, g ∈ l → 1 ≤ g ∧ g ≤ N) → t.size ≤ 1000000 → t.ok N ∧ (∀ g, g ∈ l' → 1 ≤ g ∧ g ≤ N)
  | .mk p xs, b, n, l, l', h1, h2, h3, hn, hl, hs => by
    rw [Re.typed, Bool.and_eq_true] at h1
    rw [Re.ranged] at h2
    rw [Re.named] at h3
    rw [Re.size_mk] at hs
    obtain ⟨s1, s2, s3⟩ := shaped_ok h1.1
    split at h2
    · cases h2
    split at h3
    · cases h3
    rename_i h5 h9
    have hx : ∀ (b' : Nat), Re.rangeds xs b' = some n → (p.op = 6 → p.gr = b' ∧ 1 ≤ b') → (Re.mk p xs).ok N ∧ (∀ g, g ∈ l' → 1 ≤ g ∧ g ≤ N) := by
      intro b' hr hb'
      have hg := Re.rangeds_groups xs b' n hr
      cases hm : Re.nameds xs l with
      | none => rw [hm] at h3; cases h3
      | some l2 =>
        rw [hm] at h3
        obtain ⟨k1, k2⟩ := Re.oks_aux N xs b' n l l2 h1.2 hr hm hn hl (by omega)
        refine ⟨?_, ?_⟩
        · rw [Re.ok]
          refine ⟨⟨s1, by omega⟩, fun h => ?_, fun h => ?_, fun h => ?_, k1⟩
          · have := s2 h; rintro rfl; simp at this
          · have := s3 h
            match xs, this with
            | [x], _ => exact ⟨x, rfl⟩
          · rcases h with h | h
            · have := hb' h; omega
            · have : p.gr ∈ l := by
                by_cases hm : p.gr ∈ l
                · exact hm
                · exact absurd ⟨h, hm⟩ h9
              exact hl _ this
        · intro g hgm
          by_cases h6 : p.op = 6
          · simp only [h6, if_true] at h3
            have h3' := Option.some.inj h3
            subst h3'
            rcases List.mem_append.1 hgm with hgm | hgm
            · exact k2 g hgm
            · have := List.mem_singleton.1 hgm; have := hb' h6; omega
          · simp only [h6, if_false] at h3
            have h3' := Option.some.inj h3
            subst h3'
            exact k2 g hgm
    split at h2
    · rename_i h6
      split at h2
      · rename_i hgr
        exact hx (b + 1) h2 (fun _ => ⟨by omega, by omega⟩)
      · cases h2
    · rename_i h6
      exact hx b h2 (fun h => absurd h h6)
theorem Re.oks_aux (N : Nat) : ∀ (xs : List Re) (b n : Nat) (l l' : List Int), Re.typeds xs = true → Re.rangeds xs b = some n → Re.nameds xs l = some l' → n ≤ N → (∀ g, g ∈ l → 1 ≤ g ∧ g ≤ N) → Re.sizes xs ≤ 1000000 → Re.oks N xs ∧ (∀ g, g ∈ l' → 1 ≤ g ∧ g ≤ N)
  | [], b, n, l, l', h1, h2, h3, hn, hl, hs => by
    rw [Re.nameds] at h3
    have := Option.some.inj h3
    subst this
    exact ⟨by rw [Re.oks]; trivial, hl⟩
  | t :: ts, b, n, l, l', h1, h2, h3, hn, hl, hs => by
    rw [Re.typeds, Bool.and_eq_true] at h1
    rw [Re.rangeds] at h2
    rw [Re.nameds] at h3
    have hs2 : t.size + Re.sizes ts ≤ 1000000 := hs
    cases hr : t.ranged b with
    | none => rw [hr] at h2; cases h2
    | some b2 =>
      rw [hr] at h2
      cases hm : t.named l with
      | none => rw [hm] at h3; cases h3
      | some l2 =>
        rw [hm] at h3
        have hb2 := Re.rangeds_groups ts b2 n h2
        obtain ⟨k1, k2⟩ := Re.ok_aux N t b b2 l l2 h1.1 hr hm (by omega) hl (by omega)
        obtain ⟨k3, k4⟩ := Re.oks_aux N ts b2 n l2 l' h1.2 h2 h3 hn k2 (by omega)
        exact ⟨by rw [Re.oks]; exact ⟨k1, k3⟩, k4⟩
end
theorem Re.ok_err {t : Re} (h : t.err = 0) : t.ok t.groups ∧ t.groups ≤ 9 ∧ t.size ≤ 600 := by
  unfold Re.err at h
  cases h1 : t.typed with
  | false => simp [h1] at h
  | true =>
    cases h2 : t.ranged 0 with
    | none => simp [h1, h2] at h
    | some n =>
      cases h3 : t.named [] with
      | none => simp [h1, h2, h3] at h
      | some l =>
        simp only [h1, h2, h3] at h
        have hlim : ¬ (600 < t.size ∨ 9 < t.groups ∨ 32 < t.levels) := by
          intro hx; simp [hx] at h
        have hg := Re.ranged_groups t 0 n h2
        exact ⟨(Re.ok_aux t.groups t 0 n [] l h1 h2 h3 (by omega) (fun g hg => by cases hg) (by omega)).1, by omega, by omega⟩

/-- The error of a tree and an offset. -/
def chk (t : Re) (s : ByteArray) (at_ : Int) : Int := if t.err ≠ 0 then t.err else if at_ < 0 ∨ (s.size : Int) < at_ then 2 else 0
/-- What At and Search come to: d says how many offsets there are. -/
def Api (t : Re) (s : ByteArray) (at_ : Int) (d : Nat → Nat) (lines : Bool) (B : Nat) (o : Out) (k x : Int) : Prop :=
  (chk t s at_ ≠ 0 ∧ o = .fail ∧ k = 0 ∧ x = chk t s at_) ∨ (chk t s at_ = 0 ∧ ∃ m : Nat, m ≤ B ∧ EvFind s.data.toList lines t t.groups at_.toNat (d at_.toNat) B o m ∧ k = ((B - m : Nat) : Int) ∧ x = o.errno)
theorem chk_zero {t : Re} {s : ByteArray} {at_ : Int} (h : chk t s at_ = 0) : t.err = 0 ∧ 0 ≤ at_ ∧ at_ ≤ s.size := by
  unfold chk at h
  by_cases h1 : t.err ≠ 0
  · rw [if_pos h1] at h; exact absurd h h1
  · rw [if_neg h1] at h
    by_cases h2 : at_ < 0 ∨ (s.size : Int) < at_
    · rw [if_pos h2] at h; cases h
    · exact ⟨by omega, by omega, by omega⟩
theorem Api.det {t : Re} {s : ByteArray} {at_ : Int} {d : Nat → Nat} {lines : Bool} {B : Nat} {o o' : Out} {k x k' x' : Int} (h : Api t s at_ d lines B o k x) (h' : Api t s at_ d lines B o' k' x') : o = o' ∧ k = k' ∧ x = x' := by
  rcases h with ⟨h0, rfl, rfl, rfl⟩ | ⟨h0, m, hm, h1, rfl, rfl⟩
  · rcases h' with ⟨_, rfl, rfl, rfl⟩ | ⟨h2, _⟩
    · exact ⟨rfl, rfl, rfl⟩
    · exact absurd h2 h0
  · rcases h' with ⟨h2, _⟩ | ⟨_, m', hm', h2, rfl, rfl⟩
    · exact absurd h0 h2
    · obtain ⟨rfl, rfl⟩ := EvFind.det _ _ _ _ h1 _ _ h2
      exact ⟨rfl, rfl, rfl⟩
def ApiPost (A : Out → Int → Int → Prop) (w : World) (e : Ending) (w' : World) : Prop :=
  ∃ (o : Out) (k x : Int) (v : Value), A o k x ∧ e = .returned (.tuple #[.agg #[v], .bool o.isFound, .int .i64 k, .int .i64 x]) ∧ Below w.heap.size w w' ∧ (∀ l, o = .found l → SpB (w.heap.size ≤ ·) w' v l) ∧ (o.isFound = false → v = .slice none 0 0)

set_option maxRecDepth 100000 in
set_option maxHeartbeats 8000000 in
theorem checkB_any (w : World) (t : Re) (cs : List Value) (s : ByteArray) (at_ : Int) (hin : t.In w cs) (hsz : t.size ≤ 1048576) (_hs : s.size ≤ 1000000) :
    Calls Try.prog 17 #[.agg cs.toArray, .string s, .int .i64 at_] w fun e w' => e = .returned (.int .i64 (chk t s at_)) ∧ Below w.heap.size w w' := by
  obtain ⟨p, ad, n, c, rfl⟩ := Re.cells_shape hin
  have HI := hid hin
  have HSZ := hid hsz
  have HB := hid ((Below.refl w.heap.size w).alloc (Nat.le_refl _) (.cells #[.int .i64 p.op, .int .u64 p.set.a, .int .u64 p.set.b, .int .u64 p.set.c, .int .u64 p.set.d, .int .i64 p.lo, .int .i64 p.hi, .int .i64 p.gr, .slice ad n c] 28))
  have HCH : Hid (chk t s at_ = if t.err ≠ 0 then t.err else if at_ < 0 ∨ (s.size : Int) < at_ then 2 else 0) := rfl
  generalize chk t s at_ = ans at *
  clear hin hsz
  go_enter Try.func17, Try.ntmps17
  go_wp2_with fail
  refine (Check_any t _ _ (HI.out.below HB.out) HSZ.out).mono ?_
  generalize t.err = er at *
  rintro e w1 ⟨rfl, hb⟩
  have HB1 := hid (HB.out.trans (hb.mono (by simp)))
  clear hb
  by_cases he : er = 0
  · subst he
    by_cases h1 : at_ < 0
    · go_wp2_with fail
      go_ret
      exact ⟨ret_int (by rw [HCH.out]; simp [h1]), HB1.out⟩
    · by_cases h2 : (s.size : Int) < at_
      · go_wp2_with fail
        go_ret
        exact ⟨ret_int (by rw [HCH.out]; simp [h2]), HB1.out⟩
      · go_wp2_with fail
        go_ret
        exact ⟨ret_int (by rw [HCH.out]; simp [h1, h2]), HB1.out⟩
  · have d1 : (er != 0) = true := by simp [he]
    go_wp2_with fail
    go_ret
    exact ⟨ret_int (by rw [HCH.out]; simp [he]), HB1.out⟩

-- def BX := [.int .i64 p.op, .int .u64 p.set.a, .int .u64 p.set.b, .int .u64 p.set.c, .int .u64 p.set.d, .int .i64 p.lo, .int .i64 p.hi, .int .i64 p.gr, .slice ad n c]
-- def W2 := ((w.alloc (.cells #[.int .i64 p.op, .int .u64 p.set.a, .int .u64 p.set.b, .int .u64 p.set.c, .int .u64 p.set.d, .int .i64 p.lo, .int .i64 p.hi, .int .i64 p.gr, .slice ad n c] 28)).alloc (.cells #[.slice none 0 0] 35))
-- def DAt := (fun _ => 1)
-- def DSearch := (fun f => s.size + 1 - f)
-- def TAt := f
-- def TSearch := s.size
-- def GAt := (show f + 1 - f = 1 by omega)
-- def GSearch := (rfl : s.size + 1 - f = s.size + 1 - f)
set_option maxRecDepth 100000 in
set_option maxHeartbeats 8000000 in
theorem BAt_any (w : World) (t : Re) (cs : List Value) (s : ByteArray) (at_ : Int) (lines : Bool) (budget : Int) (B : Nat) (hin : t.In w cs) (hsz : t.size ≤ 1048576) (hs : s.size ≤ 1000000) (hB : max budget 0 = (B : Int)) (hB2 : B ≤ 20000) :
    Calls Try.prog 9 #[.agg cs.toArray, .string s, .int .i64 at_, .bool lines, .int .i64 budget] w (ApiPost (Api t s at_ (fun _ => 1) lines B) w) := by
  have hin2 := hin
  obtain ⟨p, ad, n, c, rfl⟩ := Re.cells_shape hin
  have R0 : Row ((w.alloc (.cells #[.int .i64 p.op, .int .u64 p.set.a, .int .u64 p.set.b, .int .u64 p.set.c, .int .u64 p.set.d, .int .i64 p.lo, .int .i64 p.hi, .int .i64 p.gr, .slice ad n c] 28)).alloc (.cells #[.slice none 0 0] 35)) w.heap.size [.int .i64 p.op, .int .u64 p.set.a, .int .u64 p.set.b, .int .u64 p.set.c, .int .u64 p.set.d, .int .i64 p.lo, .int .i64 p.hi, .int .i64 p.gr, .slice ad n c] 28 := (Row.new rfl).alloc _
  have R1 : Row ((w.alloc (.cells #[.int .i64 p.op, .int .u64 p.set.a, .int .u64 p.set.b, .int .u64 p.set.c, .int .u64 p.set.d, .int .i64 p.lo, .int .i64 p.hi, .int .i64 p.gr, .slice ad n c] 28)).alloc (.cells #[.slice none 0 0] 35)) (w.heap.size + 1) [.slice none 0 0] 35 := Row.new (by simp)
  have hBl : Below w.heap.size w ((w.alloc (.cells #[.int .i64 p.op, .int .u64 p.set.a, .int .u64 p.set.b, .int .u64 p.set.c, .int .u64 p.set.d, .int .i64 p.lo, .int .i64 p.hi, .int .i64 p.gr, .slice ad n c] 28)).alloc (.cells #[.slice none 0 0] 35)) := ((Below.refl w.heap.size w).alloc (Nat.le_refl _) _).alloc (by simp) _
  have HRR := hid (⟨R0, R1⟩ : _ ∧ _)
  have HBL := hid hBl
  have HI := hid hin
  have HSZ := hid hsz
  have HB0 := hid hB
  have HCK := hid (checkB_any ((w.alloc (.cells #[.int .i64 p.op, .int .u64 p.set.a, .int .u64 p.set.b, .int .u64 p.set.c, .int .u64 p.set.d, .int .i64 p.lo, .int .i64 p.hi, .int .i64 p.gr, .slice ad n c] 28)).alloc (.cells #[.slice none 0 0] 35)) t _ s at_ (hin.below hBl) hsz hs)
  have q0 := R0.c9
  clear hin hin2 hsz hB R0 R1 hBl
  go_enter Try.func9, Try.ntmps9
  go_wp2_with fail
  refine HCK.out.mono ?_
  rintro e w1 ⟨rfl, hb⟩
  have hz : (((w.alloc (.cells #[.int .i64 p.op, .int .u64 p.set.a, .int .u64 p.set.b, .int .u64 p.set.c, .int .u64 p.set.d, .int .i64 p.lo, .int .i64 p.hi, .int .i64 p.gr, .slice ad n c] 28)).alloc (.cells #[.slice none 0 0] 35))).heap.size = w.heap.size + 2 := by simp
  have HX := hid (⟨HRR.out.1.below hb (by rw [hz]; omega), HRR.out.2.below hb (by rw [hz]; omega), HBL.out.trans (hb.mono (by rw [hz]; omega))⟩ : Row w1 _ _ _ ∧ Row w1 _ _ _ ∧ Below _ _ w1)
  have p0 := HX.out.1.c9
  have p1 := HX.out.2.1.cell 0
  have p2 := HX.out.2.1.free 0
  clear hb hz q0 HCK
  by_cases hc : chk t s at_ = 0
  · have hc2 := chk_zero hc
    have HC0 := hid hc
    obtain ⟨f, rfl⟩ : ∃ f : Nat, at_ = f := ⟨at_.toNat, by omega⟩
    have hfs : f ≤ s.size := by omega
    have HE := hid hc2.1
    rw [hc]
    clear hc hc2
    go_wp2_with fail
    obtain ⟨p', xs'⟩ := t
    have hin3 := HI.out
    rw [Re.In] at hin3
    obtain ⟨ad2, cap2, e, -⟩ := hin3
    simp only [Pay.cells, List.cons.injEq, Value.int.injEq, Value.slice.injEq, true_and, and_true] at e
    have hcs := HI.out
    have hpp : ([.int .i64 p.op, .int .u64 p.set.a, .int .u64 p.set.b, .int .u64 p.set.c, .int .u64 p.set.d, .int .i64 p.lo, .int .i64 p.hi, .int .i64 p.gr, .slice ad n c] : List Value) = [.int .i64 p'.op, .int .u64 p'.set.a, .int .u64 p'.set.b, .int .u64 p'.set.c, .int .u64 p'.set.d, .int .i64 p'.lo, .int .i64 p'.hi, .int .i64 p'.gr, .slice ad xs'.length c] := by
      have hi2 := HI.out
      rw [Re.In] at hi2
      obtain ⟨ad2, cap2, e, -⟩ := hi2
      rw [e]
      simp only [Pay.cells, List.cons.injEq, Value.slice.injEq] at e ⊢
      simp only [e.2.2.2.2.2.2.2.2.1]
      simp
    have ok := Re.ok_err HE.out
    have HF := find_any w1 p' xs' ad c f f s lines budget B (by rw [← hpp]; exact HI.out.below HX.out.2.2) ok.1 HSZ.out ok.2.1 (by omega) (by omega) hs HB0.out hB2
    have hpa := congrArg List.toArray hpp
    rw [← hpa, (show f + 1 - f = 1 by omega)] at HF
    refine HF.mono ?_
    rintro e w2 ⟨o, m, v, he, hm, rfl, hb2, hf1, hf2⟩
    have HW := hid (⟨HX.out.2.1.below hb2 HX.out.2.1.lt, HX.out.2.2.trans (hb2.mono HX.out.2.2.size)⟩ : Row w2 _ _ _ ∧ Below _ _ w2)
    have hwz := HX.out.2.2.size
    have p3 := HW.out.1.cell 0
    have p4 := HW.out.1.free 0
    have hv : ∃ va vn vc, v = .slice va vn vc := by
      cases o with
      | found l => obtain ⟨va, vc, e⟩ := (hf1 l rfl).form; exact ⟨_, _, _, e⟩
      | fail => exact ⟨_, _, _, hf2 rfl⟩
      | over => exact ⟨_, _, _, hf2 rfl⟩
    obtain ⟨va, vn, vc, rfl⟩ := hv
    have HO := hid (⟨he, hm, hf1, hf2⟩ : _ ∧ _ ∧ _ ∧ _)
    clear he hm hf1 hf2 hb2 p0 p1 p2 e ok HF hpa hpp hcs
    generalize hoi : o.isFound = oi at *
    generalize hoe : o.errno = oe at *
    have HOI := hid hoi
    have HOE := hid hoe
    clear hoi hoe
    go_wp2_with fail
    refine bodyPost_ret (results_cell_tmp3 rfl _ _ (w.heap.size + 1) _ _ _ _ rfl (show _ = some (Obj.cells (List.toArray _) _) from HW.out.1.set 0 (.slice va vn vc)) Try.underlying35 rfl (by kernel_rfl)) rfl ?_
    have h1 := HOI.out
    have h2 := HOE.out
    subst h1; subst h2
    refine ⟨o, _, _, _, .inr ⟨HC0.out, m, HO.out.2.1, HO.out.1, rfl, rfl⟩, rfl, HW.out.2.setCell (by simp) _, fun l hl => ?_, HO.out.2.2.2⟩
    rcases HO.out.2.2.1 l hl with ⟨h0, h1⟩ | ⟨h0, b, c', more, e, hb, hr⟩
    · exact .inl ⟨h0, h1⟩
    · exact .inr ⟨h0, b, c', more, e, Nat.le_trans hwz hb, hr.other (fun e2 => by subst e2; exact absurd (hr.typed HW.out.1) (by decide)) _ _⟩
  · have HC0 := hid hc
    generalize hce : chk t s at_ = er at *
    have HCE := hid hce
    clear hce
    have d1 : (er != 0) = true := by simp [hc]
    go_wp2_with fail
    refine bodyPost_ret (results_cell_tmp3 rfl _ _ (w.heap.size + 1) _ _ _ _ rfl (show _ = some (Obj.cells (List.toArray _) _) from HX.out.2.1.set 0 (.slice none 0 0)) Try.underlying35 rfl (by kernel_rfl)) rfl ?_
    exact ⟨.fail, 0, er, _, .inl ⟨by rw [HCE.out]; exact HC0.out, rfl, rfl, HCE.out.symm⟩, rfl, HX.out.2.2.setCell (by simp) _, fun l hl => (by cases hl), fun _ => rfl⟩
set_option maxRecDepth 100000 in
set_option maxHeartbeats 8000000 in
theorem BSearch_any (w : World) (t : Re) (cs : List Value) (s : ByteArray) (at_ : Int) (lines : Bool) (budget : Int) (B : Nat) (hin : t.In w cs) (hsz : t.size ≤ 1048576) (hs : s.size ≤ 1000000) (hB : max budget 0 = (B : Int)) (hB2 : B ≤ 20000) :
    Calls Try.prog 12 #[.agg cs.toArray, .string s, .int .i64 at_, .bool lines, .int .i64 budget] w (ApiPost (Api t s at_ (fun f => s.size + 1 - f) lines B) w) := by
  have hin2 := hin
  obtain ⟨p, ad, n, c, rfl⟩ := Re.cells_shape hin
  have R0 : Row ((w.alloc (.cells #[.int .i64 p.op, .int .u64 p.set.a, .int .u64 p.set.b, .int .u64 p.set.c, .int .u64 p.set.d, .int .i64 p.lo, .int .i64 p.hi, .int .i64 p.gr, .slice ad n c] 28)).alloc (.cells #[.slice none 0 0] 35)) w.heap.size [.int .i64 p.op, .int .u64 p.set.a, .int .u64 p.set.b, .int .u64 p.set.c, .int .u64 p.set.d, .int .i64 p.lo, .int .i64 p.hi, .int .i64 p.gr, .slice ad n c] 28 := (Row.new rfl).alloc _
  have R1 : Row ((w.alloc (.cells #[.int .i64 p.op, .int .u64 p.set.a, .int .u64 p.set.b, .int .u64 p.set.c, .int .u64 p.set.d, .int .i64 p.lo, .int .i64 p.hi, .int .i64 p.gr, .slice ad n c] 28)).alloc (.cells #[.slice none 0 0] 35)) (w.heap.size + 1) [.slice none 0 0] 35 := Row.new (by simp)
  have hBl : Below w.heap.size w ((w.alloc (.cells #[.int .i64 p.op, .int .u64 p.set.a, .int .u64 p.set.b, .int .u64 p.set.c, .int .u64 p.set.d, .int .i64 p.lo, .int .i64 p.hi, .int .i64 p.gr, .slice ad n c] 28)).alloc (.cells #[.slice none 0 0] 35)) := ((Below.refl w.heap.size w).alloc (Nat.le_refl _) _).alloc (by simp) _
  have HRR := hid (⟨R0, R1⟩ : _ ∧ _)
  have HBL := hid hBl
  have HI := hid hin
  have HSZ := hid hsz
  have HB0 := hid hB
  have HCK := hid (checkB_any ((w.alloc (.cells #[.int .i64 p.op, .int .u64 p.set.a, .int .u64 p.set.b, .int .u64 p.set.c, .int .u64 p.set.d, .int .i64 p.lo, .int .i64 p.hi, .int .i64 p.gr, .slice ad n c] 28)).alloc (.cells #[.slice none 0 0] 35)) t _ s at_ (hin.below hBl) hsz hs)
  have q0 := R0.c9
  clear hin hin2 hsz hB R0 R1 hBl
  go_enter Try.func12, Try.ntmps12
  go_wp2_with fail
  refine HCK.out.mono ?_
  rintro e w1 ⟨rfl, hb⟩
  have hz : (((w.alloc (.cells #[.int .i64 p.op, .int .u64 p.set.a, .int .u64 p.set.b, .int .u64 p.set.c, .int .u64 p.set.d, .int .i64 p.lo, .int .i64 p.hi, .int .i64 p.gr, .slice ad n c] 28)).alloc (.cells #[.slice none 0 0] 35))).heap.size = w.heap.size + 2 := by simp
  have HX := hid (⟨HRR.out.1.below hb (by rw [hz]; omega), HRR.out.2.below hb (by rw [hz]; omega), HBL.out.trans (hb.mono (by rw [hz]; omega))⟩ : Row w1 _ _ _ ∧ Row w1 _ _ _ ∧ Below _ _ w1)
  have p0 := HX.out.1.c9
  have p1 := HX.out.2.1.cell 0
  have p2 := HX.out.2.1.free 0
  clear hb hz q0 HCK
  by_cases hc : chk t s at_ = 0
  · have hc2 := chk_zero hc
    have HC0 := hid hc
    obtain ⟨f, rfl⟩ : ∃ f : Nat, at_ = f := ⟨at_.toNat, by omega⟩
    have hfs : f ≤ s.size := by omega
    have HE := hid hc2.1
    rw [hc]
    clear hc hc2
    go_wp2_with fail
    obtain ⟨p', xs'⟩ := t
    have hin3 := HI.out
    rw [Re.In] at hin3
    obtain ⟨ad2, cap2, e, -⟩ := hin3
    simp only [Pay.cells, List.cons.injEq, Value.int.injEq, Value.slice.injEq, true_and, and_true] at e
    have hcs := HI.out
    have hpp : ([.int .i64 p.op, .int .u64 p.set.a, .int .u64 p.set.b, .int .u64 p.set.c, .int .u64 p.set.d, .int .i64 p.lo, .int .i64 p.hi, .int .i64 p.gr, .slice ad n c] : List Value) = [.int .i64 p'.op, .int .u64 p'.set.a, .int .u64 p'.set.b, .int .u64 p'.set.c, .int .u64 p'.set.d, .int .i64 p'.lo, .int .i64 p'.hi, .int .i64 p'.gr, .slice ad xs'.length c] := by
      have hi2 := HI.out
      rw [Re.In] at hi2
      obtain ⟨ad2, cap2, e, -⟩ := hi2
      rw [e]
      simp only [Pay.cells, List.cons.injEq, Value.slice.injEq] at e ⊢
      simp only [e.2.2.2.2.2.2.2.2.1]
      simp
    have ok := Re.ok_err HE.out
    have HF := find_any w1 p' xs' ad c f s.size s lines budget B (by rw [← hpp]; exact HI.out.below HX.out.2.2) ok.1 HSZ.out ok.2.1 (by omega) (by omega) hs HB0.out hB2
    have hpa := congrArg List.toArray hpp
    rw [← hpa, (rfl : s.size + 1 - f = s.size + 1 - f)] at HF
    refine HF.mono ?_
    rintro e w2 ⟨o, m, v, he, hm, rfl, hb2, hf1, hf2⟩
    have HW := hid (⟨HX.out.2.1.below hb2 HX.out.2.1.lt, HX.out.2.2.trans (hb2.mono HX.out.2.2.size)⟩ : Row w2 _ _ _ ∧ Below _ _ w2)
    have hwz := HX.out.2.2.size
    have p3 := HW.out.1.cell 0
    have p4 := HW.out.1.free 0
    have hv : ∃ va vn vc, v = .slice va vn vc := by
      cases o with
      | found l => obtain ⟨va, vc, e⟩ := (hf1 l rfl).form; exact ⟨_, _, _, e⟩
      | fail => exact ⟨_, _, _, hf2 rfl⟩
      | over => exact ⟨_, _, _, hf2 rfl⟩
    obtain ⟨va, vn, vc, rfl⟩ := hv
    have HO := hid (⟨he, hm, hf1, hf2⟩ : _ ∧ _ ∧ _ ∧ _)
    clear he hm hf1 hf2 hb2 p0 p1 p2 e ok HF hpa hpp hcs
    generalize hoi : o.isFound = oi at *
    generalize hoe : o.errno = oe at *
    have HOI := hid hoi
    have HOE := hid hoe
    clear hoi hoe
    go_wp2_with fail
    refine bodyPost_ret (results_cell_tmp3 rfl _ _ (w.heap.size + 1) _ _ _ _ rfl (show _ = some (Obj.cells (List.toArray _) _) from HW.out.1.set 0 (.slice va vn vc)) Try.underlying35 rfl (by kernel_rfl)) rfl ?_
    have h1 := HOI.out
    have h2 := HOE.out
    subst h1; subst h2
    refine ⟨o, _, _, _, .inr ⟨HC0.out, m, HO.out.2.1, HO.out.1, rfl, rfl⟩, rfl, HW.out.2.setCell (by simp) _, fun l hl => ?_, HO.out.2.2.2⟩
    rcases HO.out.2.2.1 l hl with ⟨h0, h1⟩ | ⟨h0, b, c', more, e, hb, hr⟩
    · exact .inl ⟨h0, h1⟩
    · exact .inr ⟨h0, b, c', more, e, Nat.le_trans hwz hb, hr.other (fun e2 => by subst e2; exact absurd (hr.typed HW.out.1) (by decide)) _ _⟩
  · have HC0 := hid hc
    generalize hce : chk t s at_ = er at *
    have HCE := hid hce
    clear hce
    have d1 : (er != 0) = true := by simp [hc]
    go_wp2_with fail
    refine bodyPost_ret (results_cell_tmp3 rfl _ _ (w.heap.size + 1) _ _ _ _ rfl (show _ = some (Obj.cells (List.toArray _) _) from HX.out.2.1.set 0 (.slice none 0 0)) Try.underlying35 rfl (by kernel_rfl)) rfl ?_
    exact ⟨.fail, 0, er, _, .inl ⟨by rw [HCE.out]; exact HC0.out, rfl, rfl, HCE.out.symm⟩, rfl, HX.out.2.2.setCell (by simp) _, fun l hl => (by cases hl), fun _ => rfl⟩
end Go.Proofs.Ytnnocekencaadaa

/- The reference's Check of a tree: the error of the tree. -/
namespace Go.Proofs.Ytnnocekencaadaa
open Go.RowKit

theorem Re.err_some (t : Re) : t.err = if t.typed = false then 7 else if (t.ranged 0).isSome = false then 2 else if (t.named []).isSome = false then 4 else if 600 < t.size ∨ 9 < t.groups ∨ 32 < t.levels then 3 else 0 := by
  unfold Re.err
  cases t.ranged 0 <;> cases t.named [] <;> rfl

set_option maxRecDepth 100000 in
set_option maxHeartbeats 4000000 in
theorem CheckRef_any (t : Re) (w : World) (cs : List Value) (hIn : t.In w cs) (hsz : t.size ≤ 1048576) :
    Calls Try.prog 27 #[.agg cs.toArray] w fun e w' => e = .returned (.int .i64 t.err) ∧ Below w.heap.size w w' := by
  cases t with
  | mk p xs =>
    have hIn' := hIn
    rw [Re.In] at hIn
    obtain ⟨ad, cap, rfl, _⟩ := hIn
    simp only [Pay.cells] at hIn' ⊢
    have HI := hid hIn'
    have hgl := Re.count_le (· == 6) (.mk p xs)
    have hll := Re.levels_le (.mk p xs)
    have HGL := hid hgl
    have HLL := hid hll
    have HSZ := hid hsz
    have HER := hid (Re.err_some (.mk p xs))
    clear hIn' hgl hll
    have HB0 := hid ((Below.refl _ w).alloc (Nat.le_refl _) (.cells #[.int .i64 p.op, .int .u64 p.set.a, .int .u64 p.set.b, .int .u64 p.set.c, .int .u64 p.set.d, .int .i64 p.lo, .int .i64 p.hi, .int .i64 p.gr, .slice ad xs.length cap] 28))
    have HC1 := hid (typedRef_any (.mk p xs) _ _ (HI.out.below HB0.out) HSZ.out)
    go_enter Try.func27, Try.ntmps27
    go_wp2_with fail
    refine HC1.out.mono ?_
    rintro e w1 ⟨rfl, hb1⟩
    obtain ⟨hbx, hbl, hlt0⟩ := box_facts (w := w) (p := p) (sl := .slice ad xs.length cap) (hb1.mono (by simp))
    have q := hbx.c9
    have HB := hid hbl
    have HHX := hid hbx
    clear hb1 hbl HC1
    cases ht : (Re.mk p xs).typed
    · rw [ht] at HER
      have HT := hid ht
      clear ht hbx
      go_wp2_with fail
      go_ret
      exact ⟨ret_int (by rw [HER.out]; simp), HB.out⟩
    · rw [ht] at HER
      have HT := hid ht
      clear ht
      have HC2 := hid (rangedRef_any (.mk p xs) w1 _ 0 (HI.out.below HB.out) (by have := HSZ.out; simp only [Nat.zero_add]; omega))
      clear hbx
      go_wp2_with fail
      refine HC2.out.mono ?_
      rintro e w2 ⟨hb2, m, rfl, hm⟩
      have hbx := HHX.out.below hb2 (by omega)
      have hbl := HB.out.trans (hb2.mono (by omega))
      have hlt2 : w.heap.size < w2.heap.size := by have := hb2.size; omega
      have q2 := hbx.c9
      have HB2 := hid hbl
      have HHX2 := hid hbx
      clear hb2 hbl HC2 hm hbx q
      cases hr : ((Re.mk p xs).ranged 0).isSome
      · rw [hr] at HER
        clear hr
        go_wp2_with fail
        go_ret
        exact ⟨ret_int (by rw [HER.out]; simp), HB2.out⟩
      · rw [hr] at HER
        clear hr
        have HC3 := hid (namedRef_any w.heap.size w (Nat.le_refl _) (.mk p xs) w2 _ (.slice none 0 0) [] HI.out HB2.out (by omega) (World.ownsRow_nil _ _ _ _) (by have := HSZ.out; simp; omega))
        go_wp2_with fail
        refine HC3.out.mono ?_
        rintro e w3 ⟨hb3, a3, n3, c3, rfl, hm3⟩
        have hb3' : Below w2.heap.size w2 w3 := hb3.below (Nat.le_refl _) (fun k hk => by simp [own, Value.ownBlock] at hk)
        have hbx := HHX2.out.below hb3' (by omega)
        have hbl := HB2.out.trans (hb3'.mono (by omega))
        have hlt3 : w.heap.size < w3.heap.size := by have := hb3'.size; omega
        have q3 := hbx.c9
        have HB3 := hid hbl
        have HHX3 := hid hbx
        clear hb3 hb3' hbl HC3 hm3 hbx q2
        cases hr : ((Re.mk p xs).named []).isSome
        · rw [hr] at HER
          clear hr
          go_wp2_with fail
          go_ret
          exact ⟨ret_int (by rw [HER.out]; simp), HB3.out⟩
        · rw [hr] at HER
          clear hr
          have HC4 := hid (SizeRef_any (.mk p xs) w3 _ (HI.out.below HB3.out) HSZ.out)
          go_wp2_with fail
          refine HC4.out.mono ?_
          rintro e w4 ⟨rfl, hb4⟩
          have hbx := HHX3.out.below hb4 (by omega)
          have hbl := HB3.out.trans (hb4.mono (by omega))
          have hlt4 : w.heap.size < w4.heap.size := by have := hb4.size; omega
          have q4 := hbx.c9
          have HB4 := hid hbl
          have HHX4 := hid hbx
          clear hb4 hbl HC4 hbx q3
          have HC5 := hid (GroupsRef_any (.mk p xs) w4 _ (HI.out.below HB4.out) HSZ.out)
          by_cases h600 : 600 < (Re.mk p xs).size
          · have d600 : decide ((600 : Int) < ((Re.mk p xs).size : Int)) = true := by rw [decide_eq_true_eq]; omega
            have H600 := hid h600
            clear h600
            go_wp2_with fail
            go_ret
            exact ⟨ret_int (by rw [HER.out]; simp [H600.out]), HB4.out⟩
          · have d600 : decide ((600 : Int) < ((Re.mk p xs).size : Int)) = false := by rw [decide_eq_false_iff_not]; omega
            have H600 := hid h600
            clear h600
            go_wp2_with fail
            refine HC5.out.mono ?_
            rintro e w5 ⟨rfl, hb5⟩
            have hbx := HHX4.out.below hb5 (by omega)
            have hbl := HB4.out.trans (hb5.mono (by omega))
            have hlt5 : w.heap.size < w5.heap.size := by have := hb5.size; omega
            have q5 := hbx.c9
            have HB5 := hid hbl
            have HHX5 := hid hbx
            clear hb5 hbl HC5 hbx q4 d600
            have HC6 := hid (levelsRef_any (.mk p xs) w5 _ (HI.out.below HB5.out) HSZ.out)
            by_cases h9 : 9 < (Re.mk p xs).groups
            · have d9 : decide ((9 : Int) < ((Re.mk p xs).groups : Int)) = true := by rw [decide_eq_true_eq]; omega
              have H9 := hid h9
              clear h9
              go_wp2_with fail
              go_ret
              exact ⟨ret_int (by rw [HER.out]; simp [H9.out]), HB5.out⟩
            · have d9 : decide ((9 : Int) < ((Re.mk p xs).groups : Int)) = false := by rw [decide_eq_false_iff_not]; omega
              have H9 := hid h9
              clear h9
              go_wp2_with fail
              refine HC6.out.mono ?_
              rintro e w6 ⟨rfl, hb6⟩
              have hbl := HB5.out.trans (hb6.mono (by omega))
              have HB6 := hid hbl
              clear hb6 hbl HC6 d9
              by_cases h32 : 32 < (Re.mk p xs).levels
              · have d32 : decide ((32 : Int) < ((Re.mk p xs).levels : Int)) = true := by rw [decide_eq_true_eq]; omega
                have H32 := hid h32
                clear h32
                go_wp2_with fail
                go_ret
                exact ⟨ret_int (by rw [HER.out]; simp [H32.out]), HB6.out⟩
              · have d32 : decide ((32 : Int) < ((Re.mk p xs).levels : Int)) = false := by rw [decide_eq_false_iff_not]; omega
                have H32 := hid h32
                clear h32
                go_wp2_with fail
                go_ret
                exact ⟨ret_int (by rw [HER.out]; simp [H32.out, H9.out, H600.out]), HB6.out⟩
end Go.Proofs.Ytnnocekencaadaa
