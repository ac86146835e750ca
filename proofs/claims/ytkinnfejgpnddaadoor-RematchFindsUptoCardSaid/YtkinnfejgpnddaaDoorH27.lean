/- The laws of layer 9: few. -/
import Derived.Test.YtkinnfejgpnddaaDoorH26
import Derived.Test.YtkinnfejgpnddaaDoorH04
import Derived.Test.YtkinnfejgpnddaaDoorCards
import Derived.Test.YtkinnfejgpnddaaDoorTie
import Derived.Test.YtkinnfejgpnddaaDoorH05
import Derived.Lib.LaidTab
import Derived.Deep.DeepHandedRow
import Derived.Test.YtkinnfejgpnddaaDoorRows
import Derived.Test.YtkinnfejgpnddaaDoorH02
import Derived.WalkKit
import Derived.ProofKit
import Derived.OpenShut
import Derived.JoinedCond
import Derived.Carry
import Derived.ChangeArms
namespace Go.Proofs.YtkinnfejgpnddaaDoor
open Go.RowKit
attribute [local go_sem] gives givesUpon

theorem sizes_take9 : ∀ (xs : List Re) (j : Nat) (h : j < xs.length), Re.sizes (xs.take (j + 1)) = Re.sizes (xs.take j) + xs[j].size
  | x :: xs, 0, _ => by
    show Re.sizes [x] = Re.sizes [] + x.size
    have h1 : Re.sizes [x] = x.size + 0 := rfl
    have h2 : Re.sizes ([] : List Re) = 0 := rfl
    omega
  | x :: xs, j + 1, h => by
    have hj : j < xs.length := by simpa using h
    have h0 := sizes_take9 xs j hj
    have h1 : Re.sizes (x :: xs.take (j + 1)) = x.size + Re.sizes (xs.take (j + 1)) := rfl
    have h2 : Re.sizes (x :: xs.take j) = x.size + Re.sizes (xs.take j) := rfl
    show Re.sizes (x :: xs.take (j + 1)) = Re.sizes (x :: xs.take j) + (xs[j]'hj).size
    omega
set_option maxRecDepth 100000 in
set_option maxHeartbeats 8000000 in
theorem count9_any (wb : World) (t : Re) : ∀ (w : World) (cs : List Value) (n lv : Nat), t.In wb cs → Below wb.heap.size wb w → n ≤ 1000 → lv ≤ 8 →
    Calls Tryd.prog 36 #[.agg cs.toArray, .int .i64 n, .int .i64 lv] w fun e w' => ∃ r : Nat, r ≤ n + 1 ∧ (r ≤ n → t.size = r) ∧ e = .returned (.int .i64 r) ∧ Below w.heap.size w w' := by
  induction t using Re.ind with
  | h p xs ih =>
    intro w cs n lv hIn hbw hn hlv
    rw [Re.In] at hIn
    obtain ⟨ad, cap, rfl, hwf, hlc, hcm, hnil, hall⟩ := hIn
    have HIH := hid ih
    have HAL := hid hall
    have HBW := hid hbw
    clear ih hall hwf hbw
    simp only [Pay.cells]
    have hr0 := (Row.new (w := w) (cs := [.int .i64 p.op, .int .u64 p.set.a, .int .u64 p.set.b, .int .u64 p.set.c, .int .u64 p.set.d, .int .i64 p.lo, .int .i64 p.hi, .int .i64 p.gr, .slice ad xs.length cap]) (T := 28) rfl)
    have HR0 := hid hr0
    have q0 := hr0.c9
    have HAL0 := hid ((Below.refl w.heap.size w).alloc (Nat.le_refl _) (.cells #[.int .i64 p.op, .int .u64 p.set.a, .int .u64 p.set.b, .int .u64 p.set.c, .int .u64 p.set.d, .int .i64 p.lo, .int .i64 p.hi, .int .i64 p.gr, .slice ad xs.length cap] 28))
    clear hr0
    by_cases hbad : lv = 0 ∨ 6 < xs.length ∨ 4 < p.lo ∨ 4 < p.hi
    · by_cases h1 : lv = 0
      · subst h1
        go_enter Tryd.func36, Tryd.ntmps36
        go_wp2_with fail
        go_ret
        exact ⟨n + 1, Nat.le_refl _, fun h => absurd h (by omega), by simp, HAL0.out⟩
      · have d1 : ((lv : Int) == 0) = false := by simp; omega
        by_cases h2 : 6 < xs.length
        · have h2I : (6 : Int) < xs.length := by omega
          clear h1
          go_enter Tryd.func36, Tryd.ntmps36
          go_wp2_with fail
          go_ret
          exact ⟨n + 1, Nat.le_refl _, fun h => absurd h (by omega), by simp, HAL0.out⟩
        · have h2I : ¬ (6 : Int) < xs.length := by omega
          by_cases h3 : 4 < p.lo
          · clear h1
            go_enter Tryd.func36, Tryd.ntmps36
            go_wp2_with fail
            go_ret
            exact ⟨n + 1, Nat.le_refl _, fun h => absurd h (by omega), by simp, HAL0.out⟩
          · have h4 : 4 < p.hi := by omega
            clear h1
            go_enter Tryd.func36, Tryd.ntmps36
            go_wp2_with fail
            go_ret
            exact ⟨n + 1, Nat.le_refl _, fun h => absurd h (by omega), by simp, HAL0.out⟩
    · have d1 : ((lv : Int) == 0) = false := by simp; omega
      have h2 : ¬ 6 < xs.length := by omega
      have h2I : ¬ (6 : Int) < xs.length := by omega
      have h3 : ¬ 4 < p.lo := by omega
      have h4 : ¬ 4 < p.hi := by omega
      have hl0 : 0 < lv := by omega
      clear hbad
      go_enter Tryd.func36, Tryd.ntmps36
      go_wp2_with fail
      go_loopw [7, 8] (fun v i wr => ∃ (k j : Nat), k ≤ n + 1 ∧ j ≤ xs.length ∧ v = .int .i64 k ∧ i = .int .i64 j ∧ Hid ((Row wr w.heap.size [.int .i64 p.op, .int .u64 p.set.a, .int .u64 p.set.b, .int .u64 p.set.c, .int .u64 p.set.d, .int .i64 p.lo, .int .i64 p.hi, .int .i64 p.gr, .slice ad xs.length cap] 28 ∧ Below w.heap.size w wr) ∧ (k ≤ n → 1 + Re.sizes (xs.take j) = k))) (fun _ i _ => xs.length - (intOf i).toNat)
      case atStart => exact ⟨1, 0, by omega, Nat.zero_le _, rfl, rfl, ⟨HR0.out, HAL0.out⟩, fun _ => by rw [List.take_zero]; rfl⟩
      case round =>
        obtain ⟨k, j, hk, hj, rfl, rfl, HX0⟩ := hrel
        have HX := hid HX0.out.1
        have HKK := hid HX0.out.2
        clear HX0
        have q1 := HX.out.1.c9
        clear q0
        by_cases hlt : j < xs.length
        · by_cases hkn : k ≤ n
          · have HBL : Hid (Below wb.heap.size wb wr) := HBW.out.trans (HX.out.2.mono HBW.out.size)
            obtain ⟨b, o, p', ad', n', cap', rfl, HC, HI0, hbb⟩ := HAL.out.kid HBL.out j hlt
            have hjI : (j : Int) < xs.length := by omega
            have hkI : (k : Int) ≤ n := by omega
            go_wp2_with (first | (with_reducible (refine wpList_load_agg rfl 28 _ rfl b (o + (j * 9)) rfl _ _ HC.out Tryd.underlying28 rfl (size_re9 _ _ _ _ _ _ _ _ _) ?_)))
            have H1 := HIH.out xs[j] (List.getElem_mem _) wr _ (n - k) (lv - 1) HI0.out HBL.out (by omega) (by omega)
            rw [show ((n - k : Nat) : Int) = (n : Int) - k by omega, show ((lv - 1 : Nat) : Int) = (lv : Int) - 1 by omega] at H1
            refine H1.mono ?_
            clear H1
            rintro e w2 ⟨r, hr, hrs, rfl, hb2⟩
            have HKN : Hid (k + r ≤ n → 1 + Re.sizes (xs.take (j + 1)) = k + r) := fun h => by
              rw [sizes_take9 xs j hlt, ← HKK.out hkn, ← hrs (by omega)]; omega
            clear hrs
            have HX2 := hid (⟨HX.out.1.below hb2 HX.out.1.lt, HX.out.2.trans (hb2.mono HX.out.2.size)⟩ : Row w2 _ _ _ ∧ Below _ _ w2)
            clear hb2
            go_wp2_with fail
            refine ⟨⟨k + r, j + 1, by omega, by omega, by go_num, by go_num, HX2.out, HKN.out⟩, ?_⟩
            simp [intOf]; omega
          · have hkI : ¬ (k : Int) ≤ n := by omega
            have hjI : (j : Int) < xs.length := by omega
            go_wp2_with fail
            go_ret
            exact ⟨k, hk, fun h => absurd h hkn, rfl, HX.out.2⟩
        · have hjI : ¬ (j : Int) < xs.length := by omega
          go_wp2_with fail
          go_ret
          exact ⟨k, hk, fun h => by have h9 := HKK.out h; rw [List.take_of_length_le (by omega)] at h9; rw [Re.size_mk]; omega, rfl, HX.out.2⟩
set_option maxHeartbeats 2000000 in
theorem Small9_any (w : World) (t : Re) (cs : List Value) (n : Nat) (hin : t.In w cs) (hn : n ≤ 1000) :
    Calls Tryd.prog 22 #[.agg cs.toArray, .int .i64 n] w fun e w' => ∃ b, e = .returned (.bool b) ∧ (b = true → t.size ≤ n) ∧ Below w.heap.size w w' := by
  obtain ⟨p, ad, m, c, rfl⟩ := Re.cells_shape hin
  have HI := hid hin
  have HB := hid ((Below.refl w.heap.size w).alloc (Nat.le_refl _) (.cells #[.int .i64 p.op, .int .u64 p.set.a, .int .u64 p.set.b, .int .u64 p.set.c, .int .u64 p.set.d, .int .i64 p.lo, .int .i64 p.hi, .int .i64 p.gr, .slice ad m c] 28))
  clear hin
  go_enter Tryd.func22, Tryd.ntmps22
  go_wp2_with fail
  refine (count9_any w t _ _ n 8 HI.out HB.out hn (by omega)).mono ?_
  rintro e w1 ⟨r, hr, hrs, rfl, hb⟩
  have HRS := hid hrs
  clear hrs
  have HB1 := hid (HB.out.trans (hb.mono (by simp)))
  clear hb
  by_cases h : (r : Int) ≤ n
  · go_wp2_with fail
    go_ret
    exact ⟨_, rfl, fun _ => by have := HRS.out (by omega); omega, HB1.out⟩
  · go_wp2_with fail
    go_ret
    exact ⟨_, rfl, fun hb => absurd hb (by simp; omega), HB1.out⟩
/-- What few says. -/
def FewP9 (t : Re) (s : ByteArray) (w : World) (e : Ending) (w' : World) : Prop := ∃ b, e = .returned (.bool b) ∧ (b = true → t.size ≤ 14 ∧ s.size ≤ 12) ∧ Below w.heap.size w w'
set_option maxHeartbeats 2000000 in
theorem few9_any (w : World) (t : Re) (cs : List Value) (s : ByteArray) (hin : t.In w cs) :
    Calls Tryd.prog 10 #[.agg cs.toArray, .string s] w (FewP9 t s w) := by
  obtain ⟨p, ad, m, c, rfl⟩ := Re.cells_shape hin
  have HI := hid hin
  have HB := hid ((Below.refl w.heap.size w).alloc (Nat.le_refl _) (.cells #[.int .i64 p.op, .int .u64 p.set.a, .int .u64 p.set.b, .int .u64 p.set.c, .int .u64 p.set.d, .int .i64 p.lo, .int .i64 p.hi, .int .i64 p.gr, .slice ad m c] 28))
  have q0 := (Row.new (w := w) (cs := [.int .i64 p.op, .int .u64 p.set.a, .int .u64 p.set.b, .int .u64 p.set.c, .int .u64 p.set.d, .int .i64 p.lo, .int .i64 p.hi, .int .i64 p.gr, .slice ad m c]) (T := 28) rfl).c9
  clear hin
  go_enter Tryd.func10, Tryd.ntmps10
  go_wp2_with fail
  refine (Small9_any _ t _ 14 (HI.out.below HB.out) (by omega)).mono ?_
  rintro e w1 ⟨b, rfl, hbt, hb⟩
  have HB1 := hid (HB.out.trans (hb.mono (by simp)))
  have HBT := hid hbt
  clear hb hbt q0
  cases b with
  | false =>
    go_wp2_with fail
    go_ret
    exact ⟨_, rfl, fun h => absurd h (by simp), HB1.out⟩
  | true =>
    by_cases hs : (s.size : Int) ≤ 12
    · go_wp2_with fail
      go_ret
      exact ⟨_, rfl, fun _ => ⟨HBT.out (by simp), by omega⟩, HB1.out⟩
    · go_wp2_with fail
      go_ret
      exact ⟨_, rfl, fun hb => absurd hb (by simp; omega), HB1.out⟩
end Go.Proofs.YtkinnfejgpnddaaDoor

/- The laws of layer 9: two equal lists of parses are found equal. -/
namespace Go.Proofs.YtkinnfejgpnddaaDoor
open Go.RowKit
attribute [local go_sem] gives givesUpon

set_option maxRecDepth 100000 in
set_option maxHeartbeats 16000000 in
theorem SameParses_eq (w : World) (v v' : Value) (l : List Parse) (p p' : Nat → Prop) (h : PsQ p w v l) (h' : PsQ p' w v' l) (hl : l.length ≤ 5000) (hs : ∀ q, q ∈ l → q.2.length ≤ 9) :
    Calls Tryd.prog 14 #[v, v'] w fun e w' => e = .returned (.bool true) ∧ Below w.heap.size w w' := by
  obtain ⟨a, c, rfl⟩ := h.form
  obtain ⟨a', c', rfl⟩ := h'.form
  obtain ⟨n, hn⟩ : ∃ n, n = l.length := ⟨_, rfl⟩
  have HN := hid hn
  rw [← hn] at h h' hl ⊢
  have HP := hid h
  have HP' := hid h'
  have HS := hid hs
  clear h h' hs hn
  go_enter Tryd.func14, Tryd.ntmps14
  go_wp2_with fail
  go_loopw [5] (fun v wr => ∃ k : Nat, k ≤ n ∧ v = .int .i64 k ∧ Hid (Below w.heap.size w wr)) (fun v _ => n - (intOf v).toNat)
  case atStart => exact ⟨0, Nat.zero_le _, rfl, Below.refl _ _⟩
  case round =>
    obtain ⟨k, hk, rfl, HB⟩ := hrel
    by_cases hlt : k < n
    · have hltI : (k : Int) < (n : Int) := by omega
      obtain ⟨b, cc, u1, u2, sa, sc, hq, ev, hb, -, -, p0, p1, hsq⟩ := (HP.out.below HB.out).get (k := k) (by have := HN.out; omega)
      obtain ⟨b', cc', u1', u2', sa', sc', hq', ev', hb', -, -, p2, p3, hsq'⟩ := (HP'.out.below HB.out).get (k := k) (by have := HN.out; omega)
      rw [hq] at hq'
      have hqe := Option.some.inj hq'
      injection hqe with g1 g2
      subst g1; subst g2
      injection ev with e1 e2 e3
      subst e1; subst e3
      injection ev' with e4 e5 e6
      subst e4; subst e6
      clear e2 e5
      have hu : u2.length ≤ 9 := HS.out (u1, u2) (List.mem_of_getElem? hq)
      have HC0 := hid (⟨p0, p1, p2, p3, hb, hb'⟩ : _ ∧ _ ∧ _ ∧ _ ∧ _ ∧ _)
      have HC := hid (fun (x : World) (hx : Grow wr.drew x) => (⟨((grow_below hx).cell (p := ⟨b, k * 2, none⟩) HC0.out.2.2.2.2.1).trans HC0.out.1, ((grow_below hx).cell (p := ⟨b, k * 2 + 1, none⟩) HC0.out.2.2.2.2.1).trans HC0.out.2.1, ((grow_below hx).cell (p := ⟨b', k * 2, none⟩) HC0.out.2.2.2.2.2).trans HC0.out.2.2.1, ((grow_below hx).cell (p := ⟨b', k * 2 + 1, none⟩) HC0.out.2.2.2.2.2).trans HC0.out.2.2.2.1⟩ : _ ∧ _ ∧ _ ∧ _))
      have HSS := hid (fun (x : World) (hx : Grow wr.drew x) => (SameSpansQ_any x _ _ u2 u2 (hsq.below (grow_below hx)) (hsq'.below (grow_below hx)) (by omega) (by omega)).mono (R' := fun e w' => e = .returned (.bool true) ∧ Below x.heap.size x w') (fun e w' h => ⟨by rw [h.1]; simp, h.2⟩))
      clear hq hq' hsq hsq' p0 p1 p2 p3 hb hb'
      go_wp2_with fail
      refine wp_region_inv 25 (Grow) (by kernel_rfl) (by kernel_rfl) (Grow.refl) (fun _ _ _ => Grow.trans) ?_
      simp only [fill, dstOf, Act.put, List.take_succ_cons, List.take_zero, List.getElem?_toArray, List.getElem?_cons_zero, List.getElem?_cons_succ, Option.bind_some, List.setIfInBounds_toArray, List.set_cons_zero, List.set_cons_succ]
      refine Plan.det 1 rfl (Grow.refl) ?_
      apply Exists.intro
      refine ⟨fun vs x hR hF K hK => ?_, ?_⟩
      · clear hF
        go_simp
        exact hK _ _ (Grow.refl _) rfl
      refine Plan.det 2 rfl (Grow.refl) ?_
      apply Exists.intro
      refine ⟨fun vs x hR hF K hK => ?_, ?_⟩
      · clear hF
        go_simp
        exact hK _ _ (Grow.refl _) rfl
      refine Plan.det 3 rfl (Grow.refl) ?_
      apply Exists.intro
      refine ⟨fun vs x hR hF K hK => ?_, ?_⟩
      · have f0 := hF 1 _ _ rfl rfl; have f1 := hF 0 _ _ rfl rfl; clear hF
        go_simp
        exact hK _ _ (Grow.refl _) rfl
      refine Plan.det 4 rfl (Grow.refl) ?_
      apply Exists.intro
      refine ⟨fun vs x hR hF K hK => ?_, ?_⟩
      · have f2 := hF 0 _ _ rfl rfl; clear hF
        go_simp
        exact hK _ _ (Grow.refl _) rfl
      refine Plan.det 5 rfl (Grow.refl) ?_
      apply Exists.intro
      refine ⟨fun vs x hR hF K hK => ?_, ?_⟩
      · have f3 := hF 0 _ _ rfl rfl; have hc := HC.out x hR; clear hF
        go_simp
        exact hK _ _ (Grow.refl _) rfl
      refine Plan.det 6 rfl (Grow.refl) ?_
      apply Exists.intro
      refine ⟨fun vs x hR hF K hK => ?_, ?_⟩
      · clear hF
        go_simp
        exact hK _ _ (Grow.refl _) rfl
      refine Plan.det 7 rfl (Grow.refl) ?_
      apply Exists.intro
      refine ⟨fun vs x hR hF K hK => ?_, ?_⟩
      · clear hF
        go_simp
        exact hK _ _ (Grow.refl _) rfl
      refine Plan.det 8 rfl (Grow.refl) ?_
      apply Exists.intro
      refine ⟨fun vs x hR hF K hK => ?_, ?_⟩
      · have f5 := hF 1 _ _ rfl rfl; have f6 := hF 0 _ _ rfl rfl; clear hF
        go_simp
        exact hK _ _ (Grow.refl _) rfl
      refine Plan.det 9 rfl (Grow.refl) ?_
      apply Exists.intro
      refine ⟨fun vs x hR hF K hK => ?_, ?_⟩
      · have f7 := hF 0 _ _ rfl rfl; clear hF
        go_simp
        exact hK _ _ (Grow.refl _) rfl
      refine Plan.det 10 rfl (Grow.refl) ?_
      apply Exists.intro
      refine ⟨fun vs x hR hF K hK => ?_, ?_⟩
      · have f8 := hF 0 _ _ rfl rfl; have hc := HC.out x hR; clear hF
        go_simp
        exact hK _ _ (Grow.refl _) rfl
      refine Plan.det 11 rfl (Grow.refl) ?_
      apply Exists.intro
      refine ⟨fun vs x hR hF K hK => ?_, ?_⟩
      · have f4 := hF 5 _ _ rfl rfl; have f9 := hF 0 _ _ rfl rfl; clear hF
        go_simp
        exact hK _ _ (Grow.refl _) rfl
      refine Plan.det 12 rfl (Grow.refl) ?_
      apply Exists.intro
      refine ⟨fun vs x hR hF K hK => ?_, ?_⟩
      · have f10 := hF 0 _ _ rfl rfl; clear hF
        go_simp
        exact hK _ _ (Grow.refl _) rfl
      refine Plan.det 13 rfl (Grow.refl) ?_
      apply Exists.intro
      refine ⟨fun vs x hR hF K hK => ?_, ?_⟩
      · have f11 := hF 0 _ _ rfl rfl; clear hF
        go_simp
        exact hK _ _ (Grow.refl _) rfl
      refine Plan.det 14 rfl (Grow.refl) ?_
      apply Exists.intro
      refine ⟨fun vs x hR hF K hK => ?_, ?_⟩
      · have f11 := hF 1 _ _ rfl rfl; clear hF
        go_simp
        exact hK _ _ (Grow.refl _) rfl
      refine Plan.det 15 rfl (Grow.refl) ?_
      apply Exists.intro
      refine ⟨fun vs x hR hF K hK => ?_, ?_⟩
      · have f11 := hF 2 _ _ rfl rfl; have f12 := hF 1 _ _ rfl rfl; have f13 := hF 0 _ _ rfl rfl; clear hF
        go_simp
        exact hK _ _ (Grow.refl _) rfl
      refine Plan.det 16 rfl (Grow.refl) ?_
      apply Exists.intro
      refine ⟨fun vs x hR hF K hK => ?_, ?_⟩
      · have f11 := hF 3 _ _ rfl rfl; have f14 := hF 0 _ _ rfl rfl; clear hF
        go_simp
        exact hK _ _ (Grow.refl _) rfl
      refine Plan.det 17 rfl (Grow.refl) ?_
      apply Exists.intro
      refine ⟨fun vs x hR hF K hK => ?_, ?_⟩
      · have f11 := hF 4 _ _ rfl rfl; have f15 := hF 0 _ _ rfl rfl; have hc := HC.out x hR; clear hF
        go_simp
        exact hK _ _ (Grow.refl _) rfl
      refine Plan.det 18 rfl (Grow.refl) ?_
      apply Exists.intro
      refine ⟨fun vs x hR hF K hK => ?_, ?_⟩
      · have f11 := hF 5 _ _ rfl rfl; clear hF
        go_simp
        exact hK _ _ (Grow.refl _) rfl
      refine Plan.det 19 rfl (Grow.refl) ?_
      apply Exists.intro
      refine ⟨fun vs x hR hF K hK => ?_, ?_⟩
      · have f11 := hF 6 _ _ rfl rfl; clear hF
        go_simp
        exact hK _ _ (Grow.refl _) rfl
      refine Plan.det 20 rfl (Grow.refl) ?_
      apply Exists.intro
      refine ⟨fun vs x hR hF K hK => ?_, ?_⟩
      · have f11 := hF 7 _ _ rfl rfl; have f17 := hF 1 _ _ rfl rfl; have f18 := hF 0 _ _ rfl rfl; clear hF
        go_simp
        exact hK _ _ (Grow.refl _) rfl
      refine Plan.det 21 rfl (Grow.refl) ?_
      apply Exists.intro
      refine ⟨fun vs x hR hF K hK => ?_, ?_⟩
      · have f11 := hF 8 _ _ rfl rfl; have f19 := hF 0 _ _ rfl rfl; clear hF
        go_simp
        exact hK _ _ (Grow.refl _) rfl
      refine Plan.det 22 rfl (Grow.refl) ?_
      apply Exists.intro
      refine ⟨fun vs x hR hF K hK => ?_, ?_⟩
      · have f11 := hF 9 _ _ rfl rfl; have f20 := hF 0 _ _ rfl rfl; have hc := HC.out x hR; clear hF
        go_simp
        exact hK _ _ (Grow.refl _) rfl
      refine Plan.det 23 rfl (Grow.refl) ?_
      apply Exists.intro
      refine ⟨fun vs x hR hF K hK => ?_, ?_⟩
      · have f11 := hF 10 _ _ rfl rfl; have f16 := hF 5 _ _ rfl rfl; have f21 := hF 0 _ _ rfl rfl; clear hF
        go_simp
        refine (HSS.out x hR).mono ?_
        rintro e x1 ⟨rfl, hbe⟩
        exact ⟨_, rfl, hK _ _ hbe rfl⟩
      refine Plan.det 24 rfl (Grow.refl) ?_
      apply Exists.intro
      refine ⟨fun vs x hR hF K hK => ?_, ?_⟩
      · have f11 := hF 11 _ _ rfl rfl; have f22 := hF 0 _ _ rfl rfl; clear hF
        go_simp
        exact hK _ _ (Grow.refl _) rfl
      refine Plan.det 25 rfl (Grow.refl) ?_
      apply Exists.intro
      refine ⟨fun vs x hR hF K hK => ?_, ?_⟩
      · have f11 := hF 12 _ _ rfl rfl; have f23 := hF 0 _ _ rfl rfl; clear hF
        go_simp
        exact hK _ _ (Grow.refl _) rfl
      refine Plan.nil (fun vs x hR hF => ?_)
      have f0 := hF 24 _ _ rfl; have f1 := hF 23 _ _ rfl; have f2 := hF 22 _ _ rfl; have f3 := hF 21 _ _ rfl; have f4 := hF 20 _ _ rfl; have f5 := hF 19 _ _ rfl; have f6 := hF 18 _ _ rfl; have f7 := hF 17 _ _ rfl; have f8 := hF 16 _ _ rfl; have f9 := hF 15 _ _ rfl; have f10 := hF 14 _ _ rfl; have f11 := hF 13 _ _ rfl; have f12 := hF 12 _ _ rfl; have f13 := hF 11 _ _ rfl; have f14 := hF 10 _ _ rfl; have f15 := hF 9 _ _ rfl; have f16 := hF 8 _ _ rfl; have f17 := hF 7 _ _ rfl; have f18 := hF 6 _ _ rfl; have f19 := hF 5 _ _ rfl; have f20 := hF 4 _ _ rfl; have f21 := hF 3 _ _ rfl; have f22 := hF 2 _ _ rfl; have f23 := hF 1 _ _ rfl; have f24 := hF 0 _ _ rfl
      clear hF
      simp only [f0, f1, f2, f3, f4, f5, f6, f7, f8, f9, f10, f11, f12, f13, f14, f15, f16, f17, f18, f19, f20, f21, f22, f23, f24]
      clear f0 f1 f2 f3 f4 f5 f6 f7 f8 f9 f10 f11 f12 f13 f14 f15 f16 f17 f18 f19 f20 f21 f22 f23 f24
      simp only [List.drop_succ_cons, List.drop_zero]
      have HB2 := hid (HB.out.trans ((grow_below hR).mono HB.out.size))
      clear HC HSS hR HC0 HB
      go_wp2_with fail
      exact ⟨⟨k + 1, hlt, by rw [Int.natCast_add]; rfl, HB2.out⟩, by simp [intOf]; omega⟩
    · have hltI : ¬ (k : Int) < (n : Int) := by omega
      go_wp2_with fail
      go_ret
      exact ⟨rfl, HB.out⟩
set_option maxRecDepth 100000 in
set_option maxHeartbeats 8000000 in
theorem SameMatch9_any (w : World) (a a' : Option Addr) (c c' : Nat) (sp sp' : Spans) (h : SpQ w (.slice a sp.length c) sp) (h' : SpQ w (.slice a' sp'.length c') sp') (hl : sp.length ≤ 20) (hl' : sp'.length ≤ 20) :
    Calls Tryd.prog 19 #[.agg #[.slice a sp.length c], .agg #[.slice a' sp'.length c']] w fun e w' => e = .returned (.bool (decide (sp = sp'))) ∧ Below w.heap.size w w' := by
  have hb2 : Below w.heap.size w ((w.alloc (.cells #[.slice a sp.length c] 41)).alloc (.cells #[.slice a' sp'.length c'] 41)) := ((Below.refl _ _).alloc (Nat.le_refl _) _).alloc (by simp) _
  have q0 := (((Row.new (w := w) (cs := [.slice a sp.length c]) (T := 41) rfl).alloc (.cells #[.slice a' sp'.length c'] 41))).cell 0
  have q1 := (Row.new (w := (w.alloc (.cells #[.slice a sp.length c] 41))) (cs := [.slice a' sp'.length c']) (T := 41) rfl).cell 0
  have HSS := hid (SameSpansQ_any ((w.alloc (.cells #[.slice a sp.length c] 41)).alloc (.cells #[.slice a' sp'.length c'] 41)) _ _ sp sp' (h.below hb2) (h'.below hb2) (by omega) (by omega))
  have HB := hid hb2
  obtain ⟨d, hd⟩ : ∃ d, d = decide (sp = sp') := ⟨_, rfl⟩
  rw [← hd] at HSS
  have HD := hid hd
  clear h h' hb2 hd
  go_enter Tryd.func19, Tryd.ntmps19
  go_wp2_with fail
  refine HSS.out.mono ?_
  rintro e z ⟨rfl, hb⟩
  have HZ := hid (HB.out.trans (hb.mono HB.out.size))
  clear hb q0 q1
  go_wp2_with fail
  go_ret
  exact ⟨by rw [← HD.out]; rfl, HZ.out⟩
end Go.Proofs.YtkinnfejgpnddaaDoor

/- The laws of layer 9: trees of one byte, and nodes. -/
namespace Go.Proofs.YtkinnfejgpnddaaDoor
open Go.RowKit
attribute [local go_sem] gives givesUpon

def byteT (c : UInt8) : Re := .mk ⟨2, Cs.of [c], 0, 0, 0⟩ []
def nodeT (op gr : Int) (xs : List Re) : Re := .mk ⟨op, Cs.none, 0, 0, gr⟩ xs
/-- The cells of a tree of one byte. -/
abbrev byteC (c : UInt8) : List Value := [.int .i64 2, .int .u64 (Cs.of [c]).a, .int .u64 (Cs.of [c]).b, .int .u64 (Cs.of [c]).c, .int .u64 (Cs.of [c]).d, .int .i64 0, .int .i64 0, .int .i64 0, .slice none 0 0]
theorem byteT_in (c : UInt8) (w : World) : (byteT c).In w (byteC c) := by
  unfold byteT
  rw [Re.In]
  exact ⟨none, 0, rfl, ⟨by unfold I64; dsimp only; omega, Cs.of_wf _, by unfold I64; dsimp only; omega, by unfold I64; dsimp only; omega, by unfold I64; dsimp only; omega⟩, Nat.le_refl _, by unfold maxLen; omega, fun _ => rfl, by rw [Re.AllIn]; trivial⟩
set_option maxRecDepth 100000 in
set_option maxHeartbeats 4000000 in
theorem Byte_any (w : World) (c : UInt8) : Calls Tryd.prog 30 #[.int .u8 c.toNat] w fun e w' => e = .returned (.agg (byteC c).toArray) ∧ Below w.heap.size w w' := by
  have hstr : (strOfNums [(c.toNat : Int)]).data.toList = [c] := by
    simp [strOfNums]
  have hW1 : Below w.heap.size w ((w.alloc (.cells #[.int .i64 0, .int .u64 0, .int .u64 0, .int .u64 0, .int .u64 0, .int .i64 0, .int .i64 0, .int .i64 0, .slice none 0 0] 28)).alloc (.cells #[.int .u8 c.toNat] 5)) := ((Below.refl _ w).alloc (Nat.le_refl _) _).alloc (by simp) _
  have hconv := run_convert_bytes_arg (P := Tryd.prog) ((w.alloc (.cells #[.int .i64 0, .int .u64 0, .int .u64 0, .int .u64 0, .int .u64 0, .int .i64 0, .int .i64 0, .int .i64 0, .slice none 0 0] 28)).alloc (.cells #[.int .u8 c.toNat] 5)) 79 5 Tryd.underlying79 Tryd.underlying5 (w.heap.size + 1) 0 1 1 [(c.toNat : Int)] rfl (fun j hj => by
    obtain rfl : j = 0 := by omega
    exact (Row.new (w := w.alloc (.cells #[.int .i64 0, .int .u64 0, .int .u64 0, .int .u64 0, .int .u64 0, .int .i64 0, .int .i64 0, .int .i64 0, .slice none 0 0] 28)) (cs := [.int .u8 c.toNat]) (T := 5) (by simp)).cell 0) 9 Tryd.underlying9
  have hlen : (strOfNums [(c.toNat : Int)]).size = 1 := by show (strOfNums [(c.toNat : Int)]).data.size = 1; rw [← Array.length_toList, hstr]; rfl
  have HOF := hid (Of_any (strOfNums [(c.toNat : Int)]) ((w.alloc (.cells #[.int .i64 0, .int .u64 0, .int .u64 0, .int .u64 0, .int .u64 0, .int .i64 0, .int .i64 0, .int .i64 0, .slice none 0 0] 28)).alloc (.cells #[.int .u8 c.toNat] 5)) (by rw [hlen]; omega))
  rw [hstr] at HOF
  have HW1 := hid hW1
  have HRR := hid ((Row.new (w := w) (cs := [.int .i64 0, .int .u64 0, .int .u64 0, .int .u64 0, .int .u64 0, .int .i64 0, .int .i64 0, .int .i64 0, .slice none 0 0]) (T := 28) rfl).alloc (.cells #[.int .u8 c.toNat] 5))
  clear hstr hW1 hlen
  go_enter Tryd.func30, Tryd.ntmps30
  go_wp2_with fail
  refine HOF.out.mono ?_
  rintro e w1 ⟨rfl, hb⟩
  have hr := HRR.out.below hb (by simp; omega)
  have HR := hid hr
  have HB := hid (HW1.out.trans (hb.mono (by simp; omega)))
  have q := hr.c9
  clear hb hr HOF hconv
  generalize hcs : Cs.of [c] = cs at *
  have HCS := hid hcs
  clear hcs
  go_wp2_with fail
  refine bodyPost_ret (results_cell_row rfl _ _ w.heap.size _ _ _ _ rfl (show _ = some (Obj.cells (List.toArray _) _) from HR.out.set9 (.int .i64 2) (.int .u64 cs.a) (.int .u64 cs.b) (.int .u64 cs.c) (.int .u64 cs.d) (.int .i64 0) (.int .i64 0) (.int .i64 0) (.slice none 0 0)) Tryd.underlying28 rfl (by kernel_rfl)) rfl ?_
  have := HCS.out
  subst this
  exact ⟨rfl, below9 HB.out (Nat.le_refl _) _ _ _ _ _ _ _ _ _⟩
set_option maxHeartbeats 2000000 in
theorem Node_any (w : World) (op : Int) (a : Option Addr) (n c : Nat) : Calls Tryd.prog 24 #[.int .i64 op, .slice a n c] w fun e w' => e = .returned (.agg #[.int .i64 op, .int .u64 0, .int .u64 0, .int .u64 0, .int .u64 0, .int .i64 0, .int .i64 0, .int .i64 0, .slice a n c]) ∧ Below w.heap.size w w' := by
  have HRR := hid (Row.new (w := w) (cs := [.int .i64 0, .int .u64 0, .int .u64 0, .int .u64 0, .int .u64 0, .int .i64 0, .int .i64 0, .int .i64 0, .slice none 0 0]) (T := 28) rfl)
  have q := HRR.out.c9
  go_enter Tryd.func24, Tryd.ntmps24
  go_wp2_with fail
  refine bodyPost_ret (results_cell_row rfl _ _ w.heap.size _ _ _ _ rfl (show _ = some (Obj.cells (List.toArray _) _) from Row.new (cs := [.int .i64 op, .int .u64 0, .int .u64 0, .int .u64 0, .int .u64 0, .int .i64 0, .int .i64 0, .int .i64 0, .slice a n c]) rfl) Tryd.underlying28 rfl (by kernel_rfl)) rfl ?_
  exact ⟨rfl, (Below.refl _ w).alloc (Nat.le_refl _) _⟩

theorem node_in {w : World} {b : Nat} {T : TypeId} (op gr : Int) (hop : I64 op) (hgr : I64 gr) (L : List (Re × List Value)) (hr : Row w b (L.flatMap Prod.snd) T) (hn : L.length ≤ 100) (h : ∀ e, e ∈ L → e.1.In w e.2) :
    (nodeT op gr (L.map Prod.fst)).In w [.int .i64 op, .int .u64 0, .int .u64 0, .int .u64 0, .int .u64 0, .int .i64 0, .int .i64 0, .int .i64 gr, .slice (some ⟨b, 0, none⟩) L.length L.length] := by
  unfold nodeT
  rw [Re.In]
  refine ⟨some ⟨b, 0, none⟩, L.length, by rw [List.length_map]; rfl, ⟨hop, Cs.none_wf, by unfold I64; dsimp only; omega, by unfold I64; dsimp only; omega, hgr⟩, by rw [List.length_map]; exact Nat.le_refl _, by unfold maxLen; omega, (fun e => by cases e), ?_⟩
  refine AllIn_of w b L 0 fun i e hi => ⟨fun j v hj => ?_, h e (List.mem_of_getElem? hi)⟩
  have h9 : ∀ e, e ∈ L → e.2.length = 9 := fun e he => (h e he).nine
  have hj9 : j < 9 := by rw [← h9 e (List.mem_of_getElem? hi)]; exact (List.getElem?_eq_some_iff.1 hj).1
  rw [hr.cell, Nat.zero_add, flat9 L h9 i e j hi hj9]
  exact hj
end Go.Proofs.YtkinnfejgpnddaaDoor

/- The laws of layer 9: the first examples hold. -/
namespace Go.Proofs.YtkinnfejgpnddaaDoor
open Go.RowKit
attribute [local go_sem] gives givesUpon

def AT : Re := nodeT 3 0 [nodeT 6 1 [nodeT 4 0 [byteT 97, nodeT 3 0 [byteT 97, byteT 98]]], nodeT 6 2 [.mk ⟨5, Cs.none, 0, 1, 0⟩ [byteT 98]]]
def sABB : ByteArray := ⟨#[97, 98, 98]⟩
theorem at_parses : parsesR AT sABB 0 false = ([(3, [(0, 2), (2, 3)]), (2, [(0, 2), (2, 2)]), (2, [(0, 1), (1, 2)]), (1, [(0, 1), (1, 1)])], 0) := by kernel_rfl
theorem b_left : leftmostR (byteT 98) sABB 0 false = ([(1, 2)], true, 0) := by kernel_rfl
theorem rep1_in {w : World} {b : Nat} {T : TypeId} (L : List (Re × List Value)) (hr : Row w b (L.flatMap Prod.snd) T) (hn : L.length ≤ 100) (h : ∀ e, e ∈ L → e.1.In w e.2) :
    (Re.mk ⟨5, Cs.none, 0, 1, 0⟩ (L.map Prod.fst)).In w [.int .i64 5, .int .u64 0, .int .u64 0, .int .u64 0, .int .u64 0, .int .i64 0, .int .i64 1, .int .i64 0, .slice (some ⟨b, 0, none⟩) L.length L.length] := by
  rw [Re.In]
  refine ⟨some ⟨b, 0, none⟩, L.length, by rw [List.length_map]; rfl, ⟨by unfold I64; dsimp only; omega, Cs.none_wf, by unfold I64; dsimp only; omega, by unfold I64; dsimp only; omega, by unfold I64; dsimp only; omega⟩, by rw [List.length_map]; exact Nat.le_refl _, by unfold maxLen; omega, (fun e => by cases e), ?_⟩
  refine AllIn_of w b L 0 fun i e hi => ⟨fun j v hj => ?_, h e (List.mem_of_getElem? hi)⟩
  have h9 : ∀ e, e ∈ L → e.2.length = 9 := fun e he => (h e he).nine
  have hj9 : j < 9 := by rw [← h9 e (List.mem_of_getElem? hi)]; exact (List.getElem?_eq_some_iff.1 hj).1
  rw [hr.cell, Nat.zero_add, flat9 L h9 i e j hi hj9]
  exact hj
set_option maxRecDepth 100000 in
set_option maxHeartbeats 16000000 in
theorem awake9_any (w : World) (ht : Tabs9 w) : Calls Tryd.prog 11 #[] w fun e w' => e = .returned (.bool true) ∧ Below w.heap.size w w' := by
  have HT := hid ht
  clear ht
  have HBY := hid (fun (x : World) (c : UInt8) => Byte_any x c)
  go_enter Tryd.func11, Tryd.ntmps11
  go_wp2_with fail
  refine (HBY.out w 97).mono ?_
  rintro e w1 ⟨rfl, hb1⟩
  simp only [byteC]
  go_wp2_with fail
  refine (HBY.out w1 97).mono ?_
  rintro e w2 ⟨rfl, hb2⟩
  simp only [byteC]
  go_wp2_with fail
  refine (HBY.out w2 98).mono ?_
  rintro e w3 ⟨rfl, hb3⟩
  simp only [byteC]
  go_wp2_with fail
  refine (Node_any _ 3 _ _ _).mono ?_
  rintro e w4 ⟨rfl, hb4⟩
  go_wp2_with fail
  refine (Node_any _ 4 _ _ _).mono ?_
  rintro e w5 ⟨rfl, hb5⟩
  go_wp2_with fail
  have ha3 : Below w.heap.size w w3 := (hb1.trans (hb2.mono hb1.size)).trans (hb3.mono (Nat.le_trans hb1.size hb2.size))
  have ha4 : Below w.heap.size w w4 := (ha3.alloc ha3.size _).trans (hb4.mono (by have := ha3.size; simp; omega))
  have I4 : (nodeT 3 0 [byteT 97, byteT 98]).In w4 [.int .i64 3, .int .u64 0, .int .u64 0, .int .u64 0, .int .u64 0, .int .i64 0, .int .i64 0, .int .i64 0, .slice (some ⟨w3.heap.size, 0, none⟩) 2 2] := (node_in 3 0 (by unfold I64; omega) (by unfold I64; omega) [(byteT 97, byteC 97), (byteT 98, byteC 98)] (Row.new (w := w3) (T := 28) rfl) (by simp) (fun e he => by
    simp at he; rcases he with rfl | rfl
    · exact byteT_in 97 _
    · exact byteT_in 98 _)).below hb4
  have ha5 : Below w.heap.size w w5 := (ha4.alloc ha4.size _).trans (hb5.mono (by have := ha4.size; simp; omega))
  have I5 : (nodeT 4 0 [byteT 97, nodeT 3 0 [byteT 97, byteT 98]]).In w5 [.int .i64 4, .int .u64 0, .int .u64 0, .int .u64 0, .int .u64 0, .int .i64 0, .int .i64 0, .int .i64 0, .slice (some ⟨w4.heap.size, 0, none⟩) 2 2] := (node_in 4 0 (by unfold I64; omega) (by unfold I64; omega) [(byteT 97, byteC 97), (nodeT 3 0 [byteT 97, byteT 98], [.int .i64 3, .int .u64 0, .int .u64 0, .int .u64 0, .int .u64 0, .int .i64 0, .int .i64 0, .int .i64 0, .slice (some ⟨w3.heap.size, 0, none⟩) 2 2])] (Row.new (w := w4) (T := 28) rfl) (by simp) (fun e he => by
    simp at he; rcases he with rfl | rfl
    · exact byteT_in 97 _
    · exact I4.below ((Below.refl _ _).alloc (Nat.le_refl _) _))).below hb5
  have IG1 : (nodeT 6 1 [nodeT 4 0 [byteT 97, nodeT 3 0 [byteT 97, byteT 98]]]).In ((w5.alloc (.cells #[.int .i64 4, .int .u64 0, .int .u64 0, .int .u64 0, .int .u64 0, .int .i64 0, .int .i64 0, .int .i64 0, .slice (some ⟨w4.heap.size, 0, none⟩) 2 2] 28)).alloc (.cells #[.int .i64 6, .int .u64 0, .int .u64 0, .int .u64 0, .int .u64 0, .int .i64 0, .int .i64 0, .int .i64 1, .slice (some ⟨w5.heap.size, 0, none⟩) 1 1] 28)) [.int .i64 6, .int .u64 0, .int .u64 0, .int .u64 0, .int .u64 0, .int .i64 0, .int .i64 0, .int .i64 1, .slice (some ⟨w5.heap.size, 0, none⟩) 1 1] := (node_in 6 1 (by unfold I64; omega) (by unfold I64; omega) [(nodeT 4 0 [byteT 97, nodeT 3 0 [byteT 97, byteT 98]], [.int .i64 4, .int .u64 0, .int .u64 0, .int .u64 0, .int .u64 0, .int .i64 0, .int .i64 0, .int .i64 0, .slice (some ⟨w4.heap.size, 0, none⟩) 2 2])] (Row.new (w := w5) (T := 28) rfl) (by simp) (fun e he => by
    simp at he; subst he
    exact I5.below ((Below.refl _ _).alloc (Nat.le_refl _) _))).below ((Below.refl _ _).alloc (Nat.le_refl _) _)
  have hA5 : Below w.heap.size w ((w5.alloc (.cells #[.int .i64 4, .int .u64 0, .int .u64 0, .int .u64 0, .int .u64 0, .int .i64 0, .int .i64 0, .int .i64 0, .slice (some ⟨w4.heap.size, 0, none⟩) 2 2] 28)).alloc (.cells #[.int .i64 6, .int .u64 0, .int .u64 0, .int .u64 0, .int .u64 0, .int .i64 0, .int .i64 0, .int .i64 1, .slice (some ⟨w5.heap.size, 0, none⟩) 1 1] 28)) := (ha5.alloc ha5.size _).alloc (by have := ha5.size; simp; omega) _
  have R5 : Row ((w5.alloc (.cells #[.int .i64 4, .int .u64 0, .int .u64 0, .int .u64 0, .int .u64 0, .int .i64 0, .int .i64 0, .int .i64 0, .slice (some ⟨w4.heap.size, 0, none⟩) 2 2] 28)).alloc (.cells #[.int .i64 6, .int .u64 0, .int .u64 0, .int .u64 0, .int .u64 0, .int .i64 0, .int .i64 0, .int .i64 1, .slice (some ⟨w5.heap.size, 0, none⟩) 1 1] 28)) (w5.heap.size + 1) [.int .i64 6, .int .u64 0, .int .u64 0, .int .u64 0, .int .u64 0, .int .i64 0, .int .i64 0, .int .i64 1, .slice (some ⟨w5.heap.size, 0, none⟩) 1 1] 28 := Row.new (by simp)
  have H5 := hid (⟨IG1, hA5, R5⟩ : _ ∧ _ ∧ _)
  clear hb1 hb2 hb3 hb4 hb5 ha3 ha4 ha5 I4 I5 IG1 hA5 R5
  refine (HBY.out _ 98).mono ?_
  rintro e w6 ⟨rfl, hb6⟩
  have hB6 : Below ((w5.alloc (.cells #[.int .i64 4, .int .u64 0, .int .u64 0, .int .u64 0, .int .u64 0, .int .i64 0, .int .i64 0, .int .i64 0, .slice (some ⟨w4.heap.size, 0, none⟩) 2 2] 28)).alloc (.cells #[.int .i64 6, .int .u64 0, .int .u64 0, .int .u64 0, .int .u64 0, .int .i64 0, .int .i64 0, .int .i64 1, .slice (some ⟨w5.heap.size, 0, none⟩) 1 1] 28)).heap.size ((w5.alloc (.cells #[.int .i64 4, .int .u64 0, .int .u64 0, .int .u64 0, .int .u64 0, .int .i64 0, .int .i64 0, .int .i64 0, .slice (some ⟨w4.heap.size, 0, none⟩) 2 2] 28)).alloc (.cells #[.int .i64 6, .int .u64 0, .int .u64 0, .int .u64 0, .int .u64 0, .int .i64 0, .int .i64 0, .int .i64 1, .slice (some ⟨w5.heap.size, 0, none⟩) 1 1] 28)) (((w6.alloc (.cells #[.int .i64 2, .int .u64 (Cs.of [98]).a, .int .u64 (Cs.of [98]).b, .int .u64 (Cs.of [98]).c, .int .u64 (Cs.of [98]).d, .int .i64 0, .int .i64 0, .int .i64 0, .slice none 0 0] 28)).alloc (.cells #[.int .i64 5, .int .u64 0, .int .u64 0, .int .u64 0, .int .u64 0, .int .i64 0, .int .i64 1, .int .i64 0, .slice (some ⟨w6.heap.size, 0, none⟩) 1 1] 28)).alloc (.cells #[.int .i64 6, .int .u64 0, .int .u64 0, .int .u64 0, .int .u64 0, .int .i64 0, .int .i64 0, .int .i64 2, .slice (some ⟨w6.heap.size + 1, 0, none⟩) 1 1] 28)) := ((hb6.alloc hb6.size _).alloc (by have := hb6.size; simp at this ⊢; omega) _).alloc (by have := hb6.size; simp at this ⊢; omega) _
  have IR : (Re.mk ⟨5, Cs.none, 0, 1, 0⟩ [byteT 98]).In (w6.alloc (.cells #[.int .i64 2, .int .u64 (Cs.of [98]).a, .int .u64 (Cs.of [98]).b, .int .u64 (Cs.of [98]).c, .int .u64 (Cs.of [98]).d, .int .i64 0, .int .i64 0, .int .i64 0, .slice none 0 0] 28)) [.int .i64 5, .int .u64 0, .int .u64 0, .int .u64 0, .int .u64 0, .int .i64 0, .int .i64 1, .int .i64 0, .slice (some ⟨w6.heap.size, 0, none⟩) 1 1] := rep1_in [(byteT 98, byteC 98)] (Row.new (w := w6) (T := 28) rfl) (by simp) (fun e he => by simp at he; subst he; exact byteT_in 98 _)
  have IG2 : (nodeT 6 2 [.mk ⟨5, Cs.none, 0, 1, 0⟩ [byteT 98]]).In (((w6.alloc (.cells #[.int .i64 2, .int .u64 (Cs.of [98]).a, .int .u64 (Cs.of [98]).b, .int .u64 (Cs.of [98]).c, .int .u64 (Cs.of [98]).d, .int .i64 0, .int .i64 0, .int .i64 0, .slice none 0 0] 28)).alloc (.cells #[.int .i64 5, .int .u64 0, .int .u64 0, .int .u64 0, .int .u64 0, .int .i64 0, .int .i64 1, .int .i64 0, .slice (some ⟨w6.heap.size, 0, none⟩) 1 1] 28)).alloc (.cells #[.int .i64 6, .int .u64 0, .int .u64 0, .int .u64 0, .int .u64 0, .int .i64 0, .int .i64 0, .int .i64 2, .slice (some ⟨w6.heap.size + 1, 0, none⟩) 1 1] 28)) [.int .i64 6, .int .u64 0, .int .u64 0, .int .u64 0, .int .u64 0, .int .i64 0, .int .i64 0, .int .i64 2, .slice (some ⟨w6.heap.size + 1, 0, none⟩) 1 1] := (node_in (w := ((w6.alloc (.cells #[.int .i64 2, .int .u64 (Cs.of [98]).a, .int .u64 (Cs.of [98]).b, .int .u64 (Cs.of [98]).c, .int .u64 (Cs.of [98]).d, .int .i64 0, .int .i64 0, .int .i64 0, .slice none 0 0] 28)).alloc (.cells #[.int .i64 5, .int .u64 0, .int .u64 0, .int .u64 0, .int .u64 0, .int .i64 0, .int .i64 1, .int .i64 0, .slice (some ⟨w6.heap.size, 0, none⟩) 1 1] 28))) (b := w6.heap.size + 1) 6 2 (by unfold I64; omega) (by unfold I64; omega) [(.mk ⟨5, Cs.none, 0, 1, 0⟩ [byteT 98], [.int .i64 5, .int .u64 0, .int .u64 0, .int .u64 0, .int .u64 0, .int .i64 0, .int .i64 1, .int .i64 0, .slice (some ⟨w6.heap.size, 0, none⟩) 1 1])] (T := 28) (Row.new (by simp)) (by simp) (fun e he => by
    simp at he; subst he
    exact IR.below ((Below.refl _ _).alloc (Nat.le_refl _) _))).below ((Below.refl _ _).alloc (Nat.le_refl _) _)
  have R6 : Row (((w6.alloc (.cells #[.int .i64 2, .int .u64 (Cs.of [98]).a, .int .u64 (Cs.of [98]).b, .int .u64 (Cs.of [98]).c, .int .u64 (Cs.of [98]).d, .int .i64 0, .int .i64 0, .int .i64 0, .slice none 0 0] 28)).alloc (.cells #[.int .i64 5, .int .u64 0, .int .u64 0, .int .u64 0, .int .u64 0, .int .i64 0, .int .i64 1, .int .i64 0, .slice (some ⟨w6.heap.size, 0, none⟩) 1 1] 28)).alloc (.cells #[.int .i64 6, .int .u64 0, .int .u64 0, .int .u64 0, .int .u64 0, .int .i64 0, .int .i64 0, .int .i64 2, .slice (some ⟨w6.heap.size + 1, 0, none⟩) 1 1] 28)) (w6.heap.size + 2) [.int .i64 6, .int .u64 0, .int .u64 0, .int .u64 0, .int .u64 0, .int .i64 0, .int .i64 0, .int .i64 2, .slice (some ⟨w6.heap.size + 1, 0, none⟩) 1 1] 28 := Row.new (by simp)
  have IG1 := H5.out.1.below hB6
  have R5 := H5.out.2.2.below hB6 H5.out.2.2.lt
  have hA6 : Below w.heap.size w (((w6.alloc (.cells #[.int .i64 2, .int .u64 (Cs.of [98]).a, .int .u64 (Cs.of [98]).b, .int .u64 (Cs.of [98]).c, .int .u64 (Cs.of [98]).d, .int .i64 0, .int .i64 0, .int .i64 0, .slice none 0 0] 28)).alloc (.cells #[.int .i64 5, .int .u64 0, .int .u64 0, .int .u64 0, .int .u64 0, .int .i64 0, .int .i64 1, .int .i64 0, .slice (some ⟨w6.heap.size, 0, none⟩) 1 1] 28)).alloc (.cells #[.int .i64 6, .int .u64 0, .int .u64 0, .int .u64 0, .int .u64 0, .int .i64 0, .int .i64 0, .int .i64 2, .slice (some ⟨w6.heap.size + 1, 0, none⟩) 1 1] 28)) := H5.out.2.1.trans (hB6.mono H5.out.2.1.size)
  have hal : Below (((w6.alloc (.cells #[.int .i64 2, .int .u64 (Cs.of [98]).a, .int .u64 (Cs.of [98]).b, .int .u64 (Cs.of [98]).c, .int .u64 (Cs.of [98]).d, .int .i64 0, .int .i64 0, .int .i64 0, .slice none 0 0] 28)).alloc (.cells #[.int .i64 5, .int .u64 0, .int .u64 0, .int .u64 0, .int .u64 0, .int .i64 0, .int .i64 1, .int .i64 0, .slice (some ⟨w6.heap.size, 0, none⟩) 1 1] 28)).alloc (.cells #[.int .i64 6, .int .u64 0, .int .u64 0, .int .u64 0, .int .u64 0, .int .i64 0, .int .i64 0, .int .i64 2, .slice (some ⟨w6.heap.size + 1, 0, none⟩) 1 1] 28)).heap.size (((w6.alloc (.cells #[.int .i64 2, .int .u64 (Cs.of [98]).a, .int .u64 (Cs.of [98]).b, .int .u64 (Cs.of [98]).c, .int .u64 (Cs.of [98]).d, .int .i64 0, .int .i64 0, .int .i64 0, .slice none 0 0] 28)).alloc (.cells #[.int .i64 5, .int .u64 0, .int .u64 0, .int .u64 0, .int .u64 0, .int .i64 0, .int .i64 1, .int .i64 0, .slice (some ⟨w6.heap.size, 0, none⟩) 1 1] 28)).alloc (.cells #[.int .i64 6, .int .u64 0, .int .u64 0, .int .u64 0, .int .u64 0, .int .i64 0, .int .i64 0, .int .i64 2, .slice (some ⟨w6.heap.size + 1, 0, none⟩) 1 1] 28)) ((((w6.alloc (.cells #[.int .i64 2, .int .u64 (Cs.of [98]).a, .int .u64 (Cs.of [98]).b, .int .u64 (Cs.of [98]).c, .int .u64 (Cs.of [98]).d, .int .i64 0, .int .i64 0, .int .i64 0, .slice none 0 0] 28)).alloc (.cells #[.int .i64 5, .int .u64 0, .int .u64 0, .int .u64 0, .int .u64 0, .int .i64 0, .int .i64 1, .int .i64 0, .slice (some ⟨w6.heap.size, 0, none⟩) 1 1] 28)).alloc (.cells #[.int .i64 6, .int .u64 0, .int .u64 0, .int .u64 0, .int .u64 0, .int .i64 0, .int .i64 0, .int .i64 2, .slice (some ⟨w6.heap.size + 1, 0, none⟩) 1 1] 28)).alloc (.cells #[.int .i64 6, .int .u64 0, .int .u64 0, .int .u64 0, .int .u64 0, .int .i64 0, .int .i64 0, .int .i64 1, .slice (some ⟨w5.heap.size, 0, none⟩) 1 1, .int .i64 6, .int .u64 0, .int .u64 0, .int .u64 0, .int .u64 0, .int .i64 0, .int .i64 0, .int .i64 2, .slice (some ⟨w6.heap.size + 1, 0, none⟩) 1 1] 28)) := (Below.refl _ _).alloc (Nat.le_refl _) _
  have HAT : Hid (AT.In ((((w6.alloc (.cells #[.int .i64 2, .int .u64 (Cs.of [98]).a, .int .u64 (Cs.of [98]).b, .int .u64 (Cs.of [98]).c, .int .u64 (Cs.of [98]).d, .int .i64 0, .int .i64 0, .int .i64 0, .slice none 0 0] 28)).alloc (.cells #[.int .i64 5, .int .u64 0, .int .u64 0, .int .u64 0, .int .u64 0, .int .i64 0, .int .i64 1, .int .i64 0, .slice (some ⟨w6.heap.size, 0, none⟩) 1 1] 28)).alloc (.cells #[.int .i64 6, .int .u64 0, .int .u64 0, .int .u64 0, .int .u64 0, .int .i64 0, .int .i64 0, .int .i64 2, .slice (some ⟨w6.heap.size + 1, 0, none⟩) 1 1] 28)).alloc (.cells #[.int .i64 6, .int .u64 0, .int .u64 0, .int .u64 0, .int .u64 0, .int .i64 0, .int .i64 0, .int .i64 1, .slice (some ⟨w5.heap.size, 0, none⟩) 1 1, .int .i64 6, .int .u64 0, .int .u64 0, .int .u64 0, .int .u64 0, .int .i64 0, .int .i64 0, .int .i64 2, .slice (some ⟨w6.heap.size + 1, 0, none⟩) 1 1] 28)) [.int .i64 3, .int .u64 0, .int .u64 0, .int .u64 0, .int .u64 0, .int .i64 0, .int .i64 0, .int .i64 0, .slice (some ⟨w6.heap.size + 3, 0, none⟩) 2 2]) := node_in (b := w6.heap.size + 3) 3 0 (by unfold I64; omega) (by unfold I64; omega) [(nodeT 6 1 [nodeT 4 0 [byteT 97, nodeT 3 0 [byteT 97, byteT 98]]], [.int .i64 6, .int .u64 0, .int .u64 0, .int .u64 0, .int .u64 0, .int .i64 0, .int .i64 0, .int .i64 1, .slice (some ⟨w5.heap.size, 0, none⟩) 1 1]), (nodeT 6 2 [.mk ⟨5, Cs.none, 0, 1, 0⟩ [byteT 98]], [.int .i64 6, .int .u64 0, .int .u64 0, .int .u64 0, .int .u64 0, .int .i64 0, .int .i64 0, .int .i64 2, .slice (some ⟨w6.heap.size + 1, 0, none⟩) 1 1])] (T := 28) (Row.new (by simp)) (by simp) (fun e he => by
    simp at he; rcases he with rfl | rfl
    · exact IG1.below hal
    · exact IG2.below hal)
  have q0 := R5.c9
  have q1 := R6.c9
  have HA7 := hid (hA6.trans (hal.mono hA6.size))
  clear IR IG2 R6 IG1 R5 hA6 hal hB6 hb6 H5
  simp only [byteC]
  go_wp2_with fail
  refine (Node_any _ 3 _ _ _).mono ?_
  rintro e w7 ⟨rfl, hb7⟩
  have HA8 := hid (HA7.out.trans (hb7.mono HA7.out.size))
  have HPP := hid (PParses_any w7 AT _ sABB 0 false (HAT.out.below hb7) (by decide) (by decide) (HT.out.on HA8.out))
  rw [at_parses] at HPP
  clear q0 q1 hb7 HAT HA7
  go_wp2_with fail
  refine HPP.out.mono ?_
  rintro e w8 ⟨a, c, rfl, hb8, hps⟩
  have HPS := hid hps
  have HA9 := hid (HA8.out.trans (hb8.mono HA8.out.size))
  clear hb8 hps HPP HA8
  simp only [List.length_cons, List.length_nil, Nat.zero_add, Nat.reduceAdd]
  go_wp2_with fail
  refine (HBY.out w8 98).mono ?_
  rintro e w9 ⟨rfl, hb9⟩
  have HA10 := hid (HA9.out.trans (hb9.mono HA9.out.size))
  have HPS9 := hid (HPS.out.below hb9)
  have HLL := hid (PLeft_any w9 (byteT 98) _ sABB 0 false (byteT_in 98 w9) (by decide) (by decide) (HT.out.on HA10.out))
  rw [b_left] at HLL
  clear hb9 HPS HA9
  simp only [byteC]
  go_wp2_with fail
  refine HLL.out.mono ?_
  rintro e w10 ⟨a1, c1, rfl, hb10, hsq⟩
  dsimp only at hsq
  have hal : Below w10.heap.size w10 (w10.alloc (.cells #[.slice a1 1 c1] 41)) := (Below.refl _ _).alloc (Nat.le_refl _) _
  have HA11 := hid ((HA10.out.trans (hb10.mono HA10.out.size)).trans (hal.mono (HA10.out.trans (hb10.mono HA10.out.size)).size))
  have hpx := (HPS9.out.below hb10).below hal
  have hsx := hsq.below hal
  have qm := (Row.new (w := w10) (cs := [.slice a1 1 c1]) (T := 41) rfl).cell 0
  obtain ⟨b, c0, u1, u2, va, vc, hq, ev, -, -, -, p0, p1, hs0⟩ := hpx.get (k := 0) (by simp)
  simp only [List.getElem?_cons_zero, Option.some.injEq, Prod.mk.injEq] at hq
  obtain ⟨rfl, rfl⟩ := hq
  injection ev with e1 e2 e3
  subst e1; subst e3
  obtain ⟨b', c0', u1', u2', va1, vc1, hq', ev', -, -, -, p2, p3, hs1⟩ := hpx.get (k := 1) (by simp)
  simp only [List.getElem?_cons_succ, List.getElem?_cons_zero, Option.some.injEq, Prod.mk.injEq] at hq'
  obtain ⟨rfl, rfl⟩ := hq'
  injection ev' with e1 e2 e3
  injection e1 with e1
  injection e1 with e1
  subst e1
  obtain ⟨b2, c2, u12, u22, va2, vc2, hq2, ev2, -, -, -, p4, p5, hs2⟩ := hpx.get (k := 2) (by simp)
  simp only [List.getElem?_cons_succ, List.getElem?_cons_zero, Option.some.injEq, Prod.mk.injEq] at hq2
  obtain ⟨rfl, rfl⟩ := hq2
  injection ev2 with e1 e2 e3
  injection e1 with e1
  injection e1 with e1
  subst e1
  obtain ⟨b3, c3, u13, u23, va3, vc3, hq3, ev3, -, -, -, p6, p7, hs3⟩ := hpx.get (k := 3) (by simp)
  simp only [List.getElem?_cons_succ, List.getElem?_cons_zero, Option.some.injEq, Prod.mk.injEq] at hq3
  obtain ⟨rfl, rfl⟩ := hq3
  injection ev3 with e1 e2 e3
  injection e1 with e1
  injection e1 with e1
  subst e1
  obtain ⟨x1, x2, x3, h1 | ⟨s2b, more, rfl, r2⟩⟩ := hs2
  · cases h1
  obtain ⟨y1, y2, y3, h1 | ⟨s3b, more3, rfl, r3⟩⟩ := hsx
  · cases h1
  have g0 := r2.cell 0
  have g1 := r2.cell 1
  have g2 := r3.cell 0
  have g3 := r3.cell 1
  simp only [spc, List.cons_append, List.getElem?_cons_zero, List.getElem?_cons_succ] at g0 g1 g2 g3
  clear hs0 hs1 hs3 r2 r3 hpx hsq hal hb10 HPS9 HLL HA10
  simp only [Nat.reduceMul, Nat.reduceAdd, Nat.zero_mul, Nat.zero_add, Nat.one_mul] at p0 p1 p2 p3 p4 p5 p6 p7
  go_wp2_with fail
  go_ret
  exact ⟨rfl, HA11.out⟩
end Go.Proofs.YtkinnfejgpnddaaDoor

/- What the row's list gives: the tables that the matching reads. -/
namespace Go.Proofs.YtkinnfejgpnddaaDoor
open Go.ChangeShapes Go.WideShapes Go.ChangeAt Go.RowKit
set_option linter.unusedVariables false

theorem gPow : Tryd.prog.globalNamed "internal/strconv.uint64pow10" = some 1 := by kernel_rfl
theorem gPowType : (Tryd.prog.globals[1]?).map (·.type) = some 135 := by kernel_rfl
theorem gNone : Tryd.prog.globalNamed "texttools/rematch.none" = some 0 := by kernel_rfl
theorem gNoneType : (Tryd.prog.globals[0]?).map (·.type) = some 46 := by kernel_rfl
theorem gB64 : Tryd.prog.globalNamed "math/bits.deBruijn64tab" = some 3 := by kernel_rfl
theorem cells_tabs : Tryd.prog.cellsOf 135 = 20 ∧ Tryd.prog.cellsOf 22 = 1 := by refine ⟨?_, ?_⟩ <;> kernel_rfl

/-- The row's list, in its order. -/
def theLaid {H : Type} : List (String × DataW H) := [("math/bits.deBruijn32tab", Rows.laid_math_bits_deBruijn32tab), ("math/bits.deBruijn64tab", Rows.laid_math_bits_deBruijn64tab), ("internal/strconv.uint64pow10", Rows.laid_internal_strconv_uint64pow10), ("texttools/rematch.none", Rows.laid_texttools_rematch_none)]
theorem var_lt {W : World} {g : Nat} {n : String} {v : Array Value} (hg : Tryd.prog.globalNamed n = some g) (h : W.var? Tryd.prog n = some v) : g < W.heap.size := by
  unfold World.var? at h
  rw [hg] at h
  simp only [Option.bind_some] at h
  rcases Nat.lt_or_ge g W.heap.size with h9 | h9
  · exact h9
  · rw [Array.getElem?_eq_none h9] at h
    cases h
theorem var_cell9 {W : World} {n : String} {g : Nat} {cs : Array Value} (hg : Tryd.prog.globalNamed n = some g) (h : W.var? Tryd.prog n = some cs) (off : Nat) : W.cell? ⟨g, off, none⟩ = cs[off]? := by
  unfold World.var? at h
  rw [hg] at h
  simp only [Option.bind_some] at h
  unfold World.cell?
  split at h
  · rename_i cs' t' f' he
    have := Option.some.inj h
    subst this
    simp [he]
  · cases h
theorem tabs9_of_laid {W : World} (h : laidMetH Tryd.prog theLaid W) : Tabs9 W := by
  have h2 : laidMet Tryd.prog theLaid W := h
  obtain ⟨ps, hv, -, -⟩ := h2
  obtain ⟨_, _, _, _, _, q1, _, _, _, _, hv, _⟩ := hv
  obtain ⟨g3, _, _, _, _, q2, hg3, _, hvar3, _, hv, _⟩ := hv
  obtain ⟨g, t, cs, fuel, _, q3, hg, ht, hvar, hd, hv, _⟩ := hv
  obtain ⟨g', t', cs', fuel', _, q4, hg', ht', hvar', hd', hv, _⟩ := hv
  obtain rfl := Option.some.inj (gPow.symm.trans hg)
  obtain rfl := Option.some.inj (gPowType.symm.trans ht)
  obtain rfl := Option.some.inj (gNone.symm.trans hg')
  obtain rfl := Option.some.inj (gNoneType.symm.trans ht')
  have e1 : cs.toList = Lib.pow10Tab.map fun z => Value.int .u64 z := Lib.cells_of_tab (H := Unit) Tryd.underlying135 Tryd.underlying22 cells_tabs.2 cells_tabs.1 hd
  have e2 : cs'.toList = [.int .i64 (-1), .int .i64 (-1)] := by
    obtain ⟨y0, y1, n, he, hl, h0, h1⟩ := trod_struct2 Tryd.underlying46 hd'
    obtain ⟨z0, hc0, hy0, _⟩ := DataW.trod_int Tryd.underlying3 h0
    obtain ⟨z1, hc1, hy1, _⟩ := DataW.trod_int Tryd.underlying3 h1
    subst hy0; subst hy1
    have hcl : Tryd.prog.cellsOf 46 = 2 ∧ Tryd.prog.cellsOf 3 = 1 := by refine ⟨?_, ?_⟩ <;> kernel_rfl
    simp only [Prod.mk.injEq, DataW.agg.injEq, Rows.laid_texttools_rematch_none, List.cons.injEq, DataW.lit.injEq, Lit.int.injEq, true_and, and_true] at he
    obtain ⟨⟨rfl, rfl⟩, -⟩ := he
    rw [hcl.1] at hl
    have hc0' : (cs'.toList.drop 0).take (Tryd.prog.cellsOf 3) = [.int .i64 (-1)] := hc0
    have hc1' : (cs'.toList.drop 1).take (Tryd.prog.cellsOf 3) = [.int .i64 (-1)] := hc1
    rw [hcl.2] at hc0' hc1'
    generalize cs'.toList = L at hl hc0' hc1'
    match L, hl with
    | [u, v], _ => simp at hc0' hc1'; rw [hc0', hc1']
  have hn0 := fun off => var_cell9 gNone hvar' off
  have e3 : cs' = #[.int .i64 (-1), .int .i64 (-1)] := by rw [← Array.toArray_toList (xs := cs'), e2]
  obtain rfl := Option.some.inj (gB64.symm.trans hg3)
  refine ⟨?_, by rw [hn0, e3]; rfl, by rw [hn0, e3]; rfl, var_lt gB64 hvar3⟩
  unfold Lib.TabIs
  rw [hvar, ← e1]
/-- A world for the witness: the settled one, the four tables as their initialisers lay them. -/
def setCells (cs : Array Value) : Obj → Obj
  | .cells _ t frozen => .cells cs t frozen
  | o => o
def ofLits (l : List (DataW Unit)) : Array Value := (l.map fun d => match d with
  | .lit (.int k z) => Value.int k z
  | .lit (.string s) => .string ⟨s.toArray⟩
  | _ => .bool false).toArray
def partsOf : DataW Unit → List (DataW Unit)
  | .agg l => l
  | _ => []
noncomputable def laidWorld (os : Os) : World :=
  { World.holding Tryd.prog os ⟨#[], #[], []⟩ with heap := ((((World.holding Tryd.prog os ⟨#[], #[], []⟩).heap.modify 0 (setCells (ofLits (partsOf Rows.laid_texttools_rematch_none)))).modify 1 (setCells (ofLits (partsOf Rows.laid_internal_strconv_uint64pow10)))).modify 2 (setCells (ofLits (partsOf Rows.laid_math_bits_deBruijn32tab)))).modify 3 (setCells (ofLits (partsOf Rows.laid_math_bits_deBruijn64tab))) }
set_option maxRecDepth 100000 in
theorem laid_met (os : Os) (args : Array Value) : laidMet Tryd.prog theLaid ((laidWorld os).forCall (fun _ _ => 0) ⟨#[], args, []⟩).memory :=
  laidMet_of_run' 8 (by kernel_rfl) (by kernel_rfl)
end Go.Proofs.YtkinnfejgpnddaaDoor

/- From what the statement gives of an argument to the tree: what is read as data of the type Re is a tree in the memory. -/
namespace Go.Proofs.YtkinnfejgpnddaaDoor
open Go.ChangeShapes Go.WideShapes Go.ChangeAt Go.RowKit
set_option linter.unusedVariables false

theorem laidOutP : laidOutB Tryd.prog = true := by kernel_rfl
theorem cells_re : Tryd.prog.cellsOf 28 = 9 := by kernel_rfl
theorem cells_cs : Tryd.prog.cellsOf 25 = 4 := by kernel_rfl
theorem cells_a4 : Tryd.prog.cellsOf 23 = 4 := by kernel_rfl
theorem cells_u64 : Tryd.prog.cellsOf 22 = 1 := by kernel_rfl
theorem cells_int : Tryd.prog.cellsOf 3 = 1 := by kernel_rfl
theorem cells_sl : Tryd.prog.cellsOf 26 = 1 := by kernel_rfl

section
variable {H : Type} {enc : TypeId × Value → H} {w : World} {sp : Nat → Bool} {hd : Bool}

theorem open_i64 {fuel : Nat} {cs : List Value} {x : DataW H × List MemPlace} (h : DataW.trod enc Tryd.prog w 0 sp hd fuel 3 cs = some x) : ∃ n, cs = [.int .i64 n] ∧ I64 n := by
  obtain ⟨n, rfl, rfl, hw⟩ := DataW.trod_int Tryd.underlying3 h
  refine ⟨n, rfl, ?_⟩
  have e1 : IntKind.i64.min = -9223372036854775808 := rfl
  have e2 : IntKind.i64.max = 9223372036854775807 := rfl
  simpa [Lit.wf, e1, e2, I64] using hw
theorem open_u64 {fuel : Nat} {cs : List Value} {x : DataW H × List MemPlace} (h : DataW.trod enc Tryd.prog w 0 sp hd fuel 22 cs = some x) : ∃ n : Nat, cs = [.int .u64 n] ∧ W64 n := by
  obtain ⟨n, rfl, rfl, hw⟩ := DataW.trod_int Tryd.underlying22 h
  have e1 : IntKind.u64.min = 0 := rfl
  have e2 : IntKind.u64.max = 18446744073709551615 := rfl
  have hw2 : 0 ≤ n ∧ n ≤ 18446744073709551615 := by simpa [Lit.wf, e1, e2] using hw
  refine ⟨n.toNat, by rw [Int.toNat_of_nonneg hw2.1], by unfold W64; omega⟩
theorem open_cs {fuel : Nat} {c0 c1 c2 c3 : Value} {x : DataW H × List MemPlace} (h : DataW.trod enc Tryd.prog w 0 sp hd fuel 25 [c0, c1, c2, c3] = some x) : ∃ s : Cs, s.wf ∧ [c0, c1, c2, c3] = s.cells := by
  obtain ⟨ys, n, _, rfl, hl, hlen, hf⟩ := DataW.trod_struct Tryd.underlying25 h
  match ys, hlen with
  | [y0], _ =>
    have h0 : DataW.trod enc Tryd.prog w 0 sp hd n 23 (([c0, c1, c2, c3].drop 0).take (Tryd.prog.cellsOf 23)) = [y0][0]? := hf 0 _ rfl
    rw [cells_a4] at h0
    simp at h0
    obtain ⟨zs, m, _, rfl, hl2, hlen2, hf2⟩ := DataW.trod_array Tryd.underlying23 h0
    match zs, hlen2 with
    | [z0, z1, z2, z3], _ =>
      have g0 := hf2 0 (by omega)
      have g1 := hf2 1 (by omega)
      have g2 := hf2 2 (by omega)
      have g3 := hf2 3 (by omega)
      simp only [cells_u64] at g0 g1 g2 g3
      simp at g0 g1 g2 g3
      obtain ⟨a, ha, wa⟩ := open_u64 g0
      obtain ⟨b, hb, wb⟩ := open_u64 g1
      obtain ⟨c, hc, wc⟩ := open_u64 g2
      obtain ⟨d, hd, wd⟩ := open_u64 g3
      injection ha with ha
      injection hb with hb
      injection hc with hc
      injection hd with hd
      subst ha hb hc hd
      exact ⟨⟨a, b, c, d⟩, ⟨wa, wb, wc, wd⟩, rfl⟩

theorem open_kids (a : Addr) : ∀ (elems : List (DataW H × List MemPlace)) (k : Nat), (∀ (i : Nat) (x : DataW H × List MemPlace), elems[i]? = some x → ∃ (t : Re) (cs : List Value), w.cells? 0 (a.add ((k + i) * 9)) 9 = some cs ∧ t.In w cs ∧ t.size ≤ Rows.uptoBulk x.1) → (k = 0 ∨ a.spot = none) →
    ∃ xs : List Re, xs.length = elems.length ∧ Re.AllIn w xs (some a) (k * 9) ∧ Re.sizes xs ≤ Rows.uptoBulkAll (elems.map (·.1))
  | [], k, _, _ => ⟨[], rfl, by simp [Re.AllIn], by simp [Re.sizes, Re.counts, Rows.uptoBulkAll]⟩
  | x :: elems, k, h, hs => by
    obtain ⟨t, cs, hc, hin, hsz⟩ := h 0 x rfl
    obtain ⟨_, hlen, hcell⟩ := World.cells?_some hc
    have hsp : a.spot = none := by
      rcases hs with hs | hs
      · subst hs
        have h0 := hcell 0 (by omega)
        have hx : cs[0]? = some cs[0] := List.getElem?_eq_getElem (by omega)
        rw [hx] at h0
        simpa [Addr.add] using World.cell?_spot h0
      · exact hs
    obtain ⟨xs, hx1, hx2, hx3⟩ := open_kids a elems (k + 1) (fun i y hy => by
      have := h (i + 1) y (by simpa using hy)
      rwa [show k + 1 + i = k + (i + 1) by omega]) (.inr hsp)
    obtain ⟨b, o, spt⟩ := a
    simp only at hsp
    subst hsp
    refine ⟨t :: xs, by simp [hx1], ?_, ?_⟩
    · rw [Re.AllIn]
      refine ⟨⟨b, o, cs, rfl, fun j v hj => ?_, hin⟩, by rw [show k * 9 + 9 = (k + 1) * 9 by omega]; exact hx2⟩
      have hj9 : j < 9 := by
        have := (List.getElem?_eq_some_iff.1 hj).1
        omega
      have := hcell j hj9
      rw [add_plain, Addr.add_lit] at this
      rw [← hj, ← this]
      congr 2
    · have : Re.sizes (t :: xs) = t.size + Re.sizes xs := by simp [Re.sizes, Re.counts, Re.size]
      rw [this]
      simp only [List.map_cons, Rows.uptoBulkAll]
      omega

set_option maxRecDepth 100000 in
theorem open_re : ∀ (fuel : Nat) (cs : List Value) (x : DataW H × List MemPlace), DataW.trod enc Tryd.prog w 0 sp hd fuel 28 cs = some x → ∃ t : Re, t.In w cs ∧ t.size ≤ Rows.uptoBulk x.1 := by
  intro fuel
  induction fuel using Nat.strongRecOn with
  | _ fuel ih =>
    intro cs x h
    obtain ⟨ys, n, hfu, rfl, hl, hlen, hf⟩ := DataW.trod_struct Tryd.underlying28 h
    rw [cells_re] at hl
    match cs, hl with
    | [c0, c1, c2, c3, c4, c5, c6, c7, c8], _ =>
    match ys, hlen with
    | [y0, y1, y2, y3, y4, y5], _ =>
      have h0 : DataW.trod enc Tryd.prog w 0 sp hd n 3 (([c0, c1, c2, c3, c4, c5, c6, c7, c8].drop 0).take (Tryd.prog.cellsOf 3)) = [y0, y1, y2, y3, y4, y5][0]? := hf 0 _ rfl
      rw [cells_int] at h0
      simp at h0
      have h1 : DataW.trod enc Tryd.prog w 0 sp hd n 25 (([c0, c1, c2, c3, c4, c5, c6, c7, c8].drop 1).take (Tryd.prog.cellsOf 25)) = [y0, y1, y2, y3, y4, y5][1]? := hf 1 _ rfl
      rw [cells_cs] at h1
      simp at h1
      have h2 : DataW.trod enc Tryd.prog w 0 sp hd n 3 (([c0, c1, c2, c3, c4, c5, c6, c7, c8].drop 5).take (Tryd.prog.cellsOf 3)) = [y0, y1, y2, y3, y4, y5][2]? := hf 2 _ rfl
      rw [cells_int] at h2
      simp at h2
      have h3 : DataW.trod enc Tryd.prog w 0 sp hd n 3 (([c0, c1, c2, c3, c4, c5, c6, c7, c8].drop 6).take (Tryd.prog.cellsOf 3)) = [y0, y1, y2, y3, y4, y5][3]? := hf 3 _ rfl
      rw [cells_int] at h3
      simp at h3
      have h4 : DataW.trod enc Tryd.prog w 0 sp hd n 3 (([c0, c1, c2, c3, c4, c5, c6, c7, c8].drop 7).take (Tryd.prog.cellsOf 3)) = [y0, y1, y2, y3, y4, y5][4]? := hf 4 _ rfl
      rw [cells_int] at h4
      simp at h4
      have h5 : DataW.trod enc Tryd.prog w 0 sp hd n 26 (([c0, c1, c2, c3, c4, c5, c6, c7, c8].drop 8).take (Tryd.prog.cellsOf 26)) = [y0, y1, y2, y3, y4, y5][5]? := hf 5 _ rfl
      rw [cells_sl] at h5
      simp at h5
      obtain ⟨op, e0, w0⟩ := open_i64 h0
      obtain ⟨s, ws, es⟩ := open_cs h1
      obtain ⟨lo, e2, w2⟩ := open_i64 h2
      obtain ⟨hi, e3, w3⟩ := open_i64 h3
      obtain ⟨gr, e4, w4⟩ := open_i64 h4
      injection e0 with e0
      injection e2 with e2
      injection e3 with e3
      injection e4 with e4
      subst e0 e2 e3 e4
      unfold Cs.cells at es
      injection es with e10 es
      injection es with e11 es
      injection es with e12 es
      injection es with e13 es
      subst e10 e11 e12 e13
      have hwf : (⟨op, s, lo, hi, gr⟩ : Pay).wf := ⟨w0, ws, w2, w3, w4⟩
      rcases DataW.trod_slice Tryd.underlying26 h5 with ⟨hcs, hx⟩ | ⟨a, len, cap, elems, rest, m, hm, hcs, hx, hb, hle, hcm, hel, hall, _, _⟩
      · injection hcs with hcs
        subst hcs
        refine ⟨.mk ⟨op, s, lo, hi, gr⟩ [], ?_, ?_⟩
        · rw [Re.In]
          exact ⟨none, 0, rfl, hwf, Nat.le_refl _, Nat.zero_le _, fun _ => rfl, by simp [Re.AllIn]⟩
        · simp [Re.size_mk, Re.sizes, Re.counts, Rows.uptoBulk]
      · injection hcs with hcs
        subst hcs
        rw [cells_re] at hall
        obtain ⟨xs, k1, k2, k3⟩ := open_kids (w := w) a elems 0 (fun i y hy => by
          have hil : i < len := by rw [← hel]; exact (List.getElem?_eq_some_iff.1 hy).1
          have hh := hall i hil
          rw [hy] at hh
          obtain ⟨cs', g1, g2⟩ := Option.bind_eq_some_iff.1 hh
          obtain ⟨t, g3, g4⟩ := ih m (by omega) cs' y g2
          exact ⟨t, cs', by rw [Nat.zero_add]; exact g1, g3, g4⟩) (.inl rfl)
        refine ⟨.mk ⟨op, s, lo, hi, gr⟩ xs, ?_, ?_⟩
        · rw [Re.In]
          refine ⟨some a, cap, ?_, hwf, by rw [k1, hel]; exact hle, hcm, (fun e => by cases e), by simpa using k2⟩
          rw [k1, hel]
          rfl
        · rw [Re.size_mk]
          simp only [Rows.uptoBulk, Rows.uptoBulkAll, hx, List.map_cons, List.map_nil]
          omega

/-- An argument of the type Re: its value is a tree. -/
theorem open_arg {v : Value} {d : DataW H} {ps : List MemPlace} (h : DataW.Trod enc Tryd.prog w 0 sp hd 28 v d ps) : ∃ (t : Re) (cs : List Value), v = .agg cs.toArray ∧ t.In w cs ∧ t.size ≤ Rows.uptoBulk d := by
  obtain ⟨fuel, hf⟩ := h
  obtain ⟨t, h1, h2⟩ := open_re fuel _ _ hf
  refine ⟨t, v.cells.toList, ?_, h1, h2⟩
  have h9 := h1.nine
  cases v <;> simp [Value.cells] at h9 ⊢
end
end Go.Proofs.YtkinnfejgpnddaaDoor
