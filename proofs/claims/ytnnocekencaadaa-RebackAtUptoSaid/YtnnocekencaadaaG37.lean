/- Reback's laws: few, and whether two matches are the same. -/
import Derived.Test.YtnnocekencaadaaG35
namespace Go.Proofs.Ytnnocekencaadaa
open Go.RowKit
attribute [local go_sem] gives givesUpon

-- def BL := [.int .i64 p.op, .int .u64 p.set.a, .int .u64 p.set.b, .int .u64 p.set.c, .int .u64 p.set.d, .int .i64 p.lo, .int .i64 p.hi, .int .i64 p.gr, .slice ad xs.length cap]
set_option maxRecDepth 100000 in
set_option maxHeartbeats 8000000 in
theorem countL_any (wb : World) (t : Re) : ∀ (w : World) (cs : List Value) (n lv : Nat), t.In wb cs → Below wb.heap.size wb w → n ≤ 1000 → lv ≤ 8 →
    Calls Try.prog 21 #[.agg cs.toArray, .int .i64 n, .int .i64 lv] w fun e w' => ∃ r : Nat, r ≤ n + 1 ∧ e = .returned (.int .i64 r) ∧ Below w.heap.size w w' := by
  induction t using Re.ind with
  | h p xs ih =>
    intro w cs n lv hIn hbw hn hlv
    rw [Re.In] at hIn
    obtain ⟨ad, cap, rfl, hwf, hlc, hcm, hnil, hall⟩ := hIn
    have HIH := hid ih
    have HAL := hid hall
    have HBW := hid hbw
    clear ih hall hwf hbw
    simp only [Pay.cells]
    have hr0 := (Row.new (w := w) (cs := [.int .i64 p.op, .int .u64 p.set.a, .int .u64 p.set.b, .int .u64 p.set.c, .int .u64 p.set.d, .int .i64 p.lo, .int .i64 p.hi, .int .i64 p.gr, .slice ad xs.length cap]) (T := 28) rfl)
    have HR0 := hid hr0
    have q0 := hr0.c9
    have HAL0 := hid ((Below.refl w.heap.size w).alloc (Nat.le_refl _) (.cells #[.int .i64 p.op, .int .u64 p.set.a, .int .u64 p.set.b, .int .u64 p.set.c, .int .u64 p.set.d, .int .i64 p.lo, .int .i64 p.hi, .int .i64 p.gr, .slice ad xs.length cap] 28))
    clear hr0
    by_cases hbad : lv = 0 ∨ 6 < xs.length ∨ 4 < p.lo ∨ 4 < p.hi
    · by_cases h1 : lv = 0
      · subst h1
        go_enter Try.func21, Try.ntmps21
        go_wp2_with fail
        go_ret
        exact ⟨n + 1, Nat.le_refl _, by simp, HAL0.out⟩
      · have d1 : ((lv : Int) == 0) = false := by simp; omega
        by_cases h2 : 6 < xs.length
        · have h2I : (6 : Int) < xs.length := by omega
          clear h1
          go_enter Try.func21, Try.ntmps21
          go_wp2_with fail
          go_ret
          exact ⟨n + 1, Nat.le_refl _, by simp, HAL0.out⟩
        · have h2I : ¬ (6 : Int) < xs.length := by omega
          by_cases h3 : 4 < p.lo
          · clear h1
            go_enter Try.func21, Try.ntmps21
            go_wp2_with fail
            go_ret
            exact ⟨n + 1, Nat.le_refl _, by simp, HAL0.out⟩
          · have h4 : 4 < p.hi := by omega
            clear h1
            go_enter Try.func21, Try.ntmps21
            go_wp2_with fail
            go_ret
            exact ⟨n + 1, Nat.le_refl _, by simp, HAL0.out⟩
    · have d1 : ((lv : Int) == 0) = false := by simp; omega
      have h2 : ¬ 6 < xs.length := by omega
      have h2I : ¬ (6 : Int) < xs.length := by omega
      have h3 : ¬ 4 < p.lo := by omega
      have h4 : ¬ 4 < p.hi := by omega
      have hl0 : 0 < lv := by omega
      clear hbad
      go_enter Try.func21, Try.ntmps21
      go_wp2_with fail
      go_loopw [7, 8] (fun v i wr => ∃ (k j : Nat), k ≤ n + 1 ∧ j ≤ xs.length ∧ v = .int .i64 k ∧ i = .int .i64 j ∧ Hid (Row wr w.heap.size [.int .i64 p.op, .int .u64 p.set.a, .int .u64 p.set.b, .int .u64 p.set.c, .int .u64 p.set.d, .int .i64 p.lo, .int .i64 p.hi, .int .i64 p.gr, .slice ad xs.length cap] 28 ∧ Below w.heap.size w wr)) (fun _ i _ => xs.length - (intOf i).toNat)
      case atStart => exact ⟨1, 0, by omega, Nat.zero_le _, rfl, rfl, HR0.out, HAL0.out⟩
      case round =>
        obtain ⟨k, j, hk, hj, rfl, rfl, HX⟩ := hrel
        have q1 := HX.out.1.c9
        clear q0
        by_cases hlt : j < xs.length
        · by_cases hkn : k ≤ n
          · have HBL : Hid (Below wb.heap.size wb wr) := HBW.out.trans (HX.out.2.mono HBW.out.size)
            obtain ⟨b, o, p', ad', n', cap', rfl, HC, HI0, hbb⟩ := HAL.out.kid HBL.out j hlt
            have hjI : (j : Int) < xs.length := by omega
            have hkI : (k : Int) ≤ n := by omega
            go_wp2_with (first | (with_reducible (refine wpList_load_agg rfl 28 _ rfl b (o + (j * 9)) rfl _ _ HC.out Try.underlying28 rfl (size_re9 _ _ _ _ _ _ _ _ _) ?_)))
            have H1 := HIH.out xs[j] (List.getElem_mem _) wr _ (n - k) (lv - 1) HI0.out HBL.out (by omega) (by omega)
            rw [show ((n - k : Nat) : Int) = (n : Int) - k by omega, show ((lv - 1 : Nat) : Int) = (lv : Int) - 1 by omega] at H1
            refine H1.mono ?_
            clear H1
            rintro e w2 ⟨r, hr, rfl, hb2⟩
            have HX2 := hid (⟨HX.out.1.below hb2 HX.out.1.lt, HX.out.2.trans (hb2.mono HX.out.2.size)⟩ : Row w2 _ _ _ ∧ Below _ _ w2)
            clear hb2
            go_wp2_with fail
            refine ⟨⟨k + r, j + 1, by omega, by omega, by go_num, by go_num, HX2.out⟩, ?_⟩
            simp [intOf]; omega
          · have hkI : ¬ (k : Int) ≤ n := by omega
            have hjI : (j : Int) < xs.length := by omega
            go_wp2_with fail
            go_ret
            exact ⟨k, hk, rfl, HX.out.2⟩
        · have hjI : ¬ (j : Int) < xs.length := by omega
          go_wp2_with fail
          go_ret
          exact ⟨k, hk, rfl, HX.out.2⟩
set_option maxHeartbeats 2000000 in
theorem Small_any (w : World) (t : Re) (cs : List Value) (n : Nat) (hin : t.In w cs) (hn : n ≤ 1000) :
    Calls Try.prog 14 #[.agg cs.toArray, .int .i64 n] w fun e w' => ∃ b, e = .returned (.bool b) ∧ Below w.heap.size w w' := by
  obtain ⟨p, ad, m, c, rfl⟩ := Re.cells_shape hin
  have HI := hid hin
  have HB := hid ((Below.refl w.heap.size w).alloc (Nat.le_refl _) (.cells #[.int .i64 p.op, .int .u64 p.set.a, .int .u64 p.set.b, .int .u64 p.set.c, .int .u64 p.set.d, .int .i64 p.lo, .int .i64 p.hi, .int .i64 p.gr, .slice ad m c] 28))
  clear hin
  go_enter Try.func14, Try.ntmps14
  go_wp2_with fail
  refine (countL_any w t _ _ n 8 HI.out HB.out hn (by omega)).mono ?_
  rintro e w1 ⟨r, hr, rfl, hb⟩
  have HB1 := hid (HB.out.trans (hb.mono (by simp)))
  clear hb
  by_cases h : (r : Int) ≤ n
  all_goals
    go_wp2_with fail
    go_ret
    exact ⟨_, rfl, HB1.out⟩
def FewPost (s : ByteArray) (budget : Int) (w : World) (e : Ending) (w' : World) : Prop := ∃ b, e = .returned (.bool b) ∧ (b = true → s.size ≤ 12 ∧ budget ≤ 20000) ∧ Below w.heap.size w w'
set_option maxHeartbeats 2000000 in
theorem few_any (w : World) (t : Re) (cs : List Value) (s : ByteArray) (at_ budget : Int) (lines : Bool) (hin : t.In w cs) (hs : (s.size : Int) ≤ 9223372036854775807) :
    Calls Try.prog 7 #[.agg cs.toArray, .agg #[.string s, .int .i64 at_, .bool lines, .int .i64 budget]] w (FewPost s budget w) := by
  obtain ⟨p, ad, m, c, rfl⟩ := Re.cells_shape hin
  have HI := hid hin
  have HB := hid (((Below.refl w.heap.size w).alloc (Nat.le_refl _) (.cells #[.int .i64 p.op, .int .u64 p.set.a, .int .u64 p.set.b, .int .u64 p.set.c, .int .u64 p.set.d, .int .i64 p.lo, .int .i64 p.hi, .int .i64 p.gr, .slice ad m c] 28)).alloc (by simp) (.cells #[.string s, .int .i64 at_, .bool lines, .int .i64 budget] 30))
  have R1 := (Row.new (w := w.alloc (.cells #[.int .i64 p.op, .int .u64 p.set.a, .int .u64 p.set.b, .int .u64 p.set.c, .int .u64 p.set.d, .int .i64 p.lo, .int .i64 p.hi, .int .i64 p.gr, .slice ad m c] 28)) (B := w.heap.size + 1) (cs := [.string s, .int .i64 at_, .bool lines, .int .i64 budget]) (T := 30) (by simp))
  have HR1 := hid R1
  clear hin R1
  go_enter Try.func7, Try.ntmps7
  go_wp2_with fail
  refine (Small_any _ t _ 14 (HI.out.below HB.out) (by omega)).mono ?_
  rintro e w1 ⟨b, rfl, hb⟩
  have HB1 := hid (HB.out.trans (hb.mono (by simp; omega)))
  have q := (HR1.out.below hb (by simp)).c4
  clear hb
  cases b with
  | false =>
    go_wp2_with fail
    go_ret
    exact ⟨false, rfl, fun h => (by cases h), HB1.out⟩
  | true =>
    by_cases h1 : s.size ≤ 12
    · have h1I : (s.size : Int) ≤ 12 := by omega
      go_wp2_with fail
      go_ret
      exact ⟨decide (budget ≤ 20000), rfl, fun h => ⟨h1, by simpa using h⟩, HB1.out⟩
    · have h1I : ¬ (s.size : Int) ≤ 12 := by omega
      go_wp2_with fail
      go_ret
      exact ⟨false, rfl, fun h => (by cases h), HB1.out⟩
end Go.Proofs.Ytnnocekencaadaa

/- Reback's laws: whether two matches are the same; what a search comes to, reckoned. -/
namespace Go.Proofs.Ytnnocekencaadaa
open Go.RowKit
attribute [local go_sem] gives givesUpon

theorem run_eqIn_span (a b c d : Int) (x : World) : (Op.equalIn 10000 44 (.agg #[.int .i64 a, .int .i64 b]) (.agg #[.int .i64 c, .int .i64 d])).run Try.prog x = .ok (decide (a = c ∧ b = d)) x := by
  have hf : (Try.prog.fieldsOf 44).toList = [{ name := "From", type := 3, offset := 0, embedded := false, tag := "", pkgPath := "", byteOffset := 0 }, { name := "To", type := 3, offset := 1, embedded := false, tag := "", pkgPath := "", byteOffset := 8 }] := by kernel_rfl
  have key : decide (a = c ∧ b = d) = ((a == c) && (b == d)) := by
    rw [Bool.eq_iff_iff]
    simp only [decide_eq_true_eq, Bool.and_eq_true, beq_iff_eq]
  rw [key, run_equalIn_agg _ 9999 44 _ _ (by kernel_rfl) (by kernel_rfl), hf]
  simp [Op.eqFields, go_sem]
  by_cases h1 : a = c <;> by_cases h2 : b = d <;> simp [h1, h2]
set_option maxRecDepth 100000 in
set_option maxHeartbeats 8000000 in
theorem SameSpans_any (w : World) (p q : Nat → Prop) (v v' : Value) (l l' : Spans) (h : SpB p w v l) (h' : SpB q w v' l') (hl : l.length ≤ 1000) (_hl' : l'.length ≤ 1000) :
    Calls Try.prog 20 #[v, v'] w fun e w' => e = .returned (.bool (decide (l = l'))) ∧ Below w.heap.size w w' := by
  obtain ⟨a, c, rfl⟩ := h.form
  obtain ⟨a', c', rfl⟩ := h'.form
  by_cases hlen : l.length = l'.length
  · have HL := hid hlen
    obtain ⟨n, hn⟩ : ∃ n, n = l.length := ⟨_, rfl⟩
    have hn' : n = l'.length := hn.trans hlen
    have hn9 : n ≤ 1000 := by omega
    have H1 := hid h
    have H2 := hid h'
    have HN := hid hn
    have HN' := hid hn'
    rw [← hn, ← hn']
    clear hlen h h' hn hn' hl
    go_enter Try.func20, Try.ntmps20
    go_wp2_with fail
    go_loopw [5] (fun v wr => ∃ k : Nat, k ≤ n ∧ v = .int .i64 k ∧ Hid (∀ j, j < k → l[j]? = l'[j]?) ∧ Hid (Below w.heap.size w wr)) (fun v _ => n - (intOf v).toNat)
    case atStart => exact ⟨0, Nat.zero_le _, rfl, fun j hj => by omega, Below.refl _ _⟩
    case round =>
      obtain ⟨k, hk, rfl, HE, HB⟩ := hrel
      by_cases hlt : k < n
      · have hltI : (k : Int) < (n : Int) := by omega
        have hk1 : k < l.length := by have := HN.out; omega
        have hk2 : k < l'.length := by have := HN'.out; omega
        rcases H1.out with ⟨h0, -⟩ | ⟨-, b, cc, more, e, -, hr⟩
        · rw [h0] at hk1; simp at hk1
        rcases H2.out with ⟨h0, -⟩ | ⟨-, b', cc', more', e', -, hr'⟩
        · rw [h0] at hk2; simp at hk2
        injection e with e1 e3 e4
        injection e' with e2 e5 e6
        clear e3 e4 e5 e6
        subst e1; subst e2
        have hx := spc_get l k l[k] (by simp [hk1])
        have hx' := spc_get l' k l'[k] (by simp [hk2])
        have r1 := hr.below HB.out hr.lt
        have r2 := hr'.below HB.out hr'.lt
        have s1 := spc_length l
        have s2 := spc_length l'
        have p0 := r1.cell (k * 2)
        have p1 := r1.cell (k * 2 + 1)
        have p2 := r2.cell (k * 2)
        have p3 := r2.cell (k * 2 + 1)
        rw [List.getElem?_append_left (by omega), show k * 2 = 2 * k by omega, hx.1, show 2 * k = k * 2 by omega] at p0
        rw [List.getElem?_append_left (by omega), show k * 2 + 1 = 2 * k + 1 by omega, hx.2, show 2 * k + 1 = k * 2 + 1 by omega] at p1
        rw [List.getElem?_append_left (by omega), show k * 2 = 2 * k by omega, hx'.1, show 2 * k = k * 2 by omega] at p2
        rw [List.getElem?_append_left (by omega), show k * 2 + 1 = 2 * k + 1 by omega, hx'.2, show 2 * k + 1 = k * 2 + 1 by omega] at p3
        have HK1 : Hid (l[k]? = some l[k]) := by show _ = _; simp [hk1]
        have HK2 : Hid (l'[k]? = some l'[k]) := by show _ = _; simp [hk2]
        clear hr hr' s1 s2 hx hx'
        generalize l[k] = x at *
        generalize l'[k] = y at *
        obtain ⟨x1, x2⟩ := x
        obtain ⟨y1, y2⟩ := y
        dsimp only at p0 p1 p2 p3
        have HC0 := hid (⟨p0, p1, p2, p3, r1.lt, r2.lt⟩ : _ ∧ _ ∧ _ ∧ _ ∧ _ ∧ _)
        have HC := hid (fun (x : World) (hx : Grow wr.drew x) => (⟨((grow_below hx).cell (p := ⟨b, k * 2, none⟩) HC0.out.2.2.2.2.1).trans HC0.out.1, ((grow_below hx).cell (p := ⟨b, k * 2 + 1, none⟩) HC0.out.2.2.2.2.1).trans HC0.out.2.1, ((grow_below hx).cell (p := ⟨b', k * 2, none⟩) HC0.out.2.2.2.2.2).trans HC0.out.2.2.1, ((grow_below hx).cell (p := ⟨b', k * 2 + 1, none⟩) HC0.out.2.2.2.2.2).trans HC0.out.2.2.2.1⟩ : _ ∧ _ ∧ _ ∧ _))
        have heq := run_eqIn_span x1 x2 y1 y2
        clear r1 r2 p0 p1 p2 p3
        by_cases hxy : x1 = y1 ∧ x2 = y2
        · rw [decide_eq_true hxy] at heq
          have HXY := hid hxy
          clear hxy
          go_wp2_with fail
          refine wp_region_inv 9 (Grow) (by kernel_rfl) (by kernel_rfl) (Grow.refl) (fun _ _ _ => Grow.trans) ?_
          simp only [fill, dstOf, Act.put, List.take_succ_cons, List.take_zero, List.getElem?_toArray, List.getElem?_cons_zero, List.getElem?_cons_succ, Option.bind_some, List.setIfInBounds_toArray, List.set_cons_zero, List.set_cons_succ]
          refine Plan.det 1 rfl (Grow.refl) ?_
          apply Exists.intro
          refine ⟨fun vs x hR hF K hK => ?_, ?_⟩
          · clear hF
            go_simp
            exact hK _ _ (Grow.refl _) rfl
          refine Plan.det 2 rfl (Grow.refl) ?_
          apply Exists.intro
          refine ⟨fun vs x hR hF K hK => ?_, ?_⟩
          · clear hF
            go_simp
            exact hK _ _ (Grow.refl _) rfl
          refine Plan.det 3 rfl (Grow.refl) ?_
          apply Exists.intro
          refine ⟨fun vs x hR hF K hK => ?_, ?_⟩
          · have f0 := hF 1 _ _ rfl rfl; have f1 := hF 0 _ _ rfl rfl; clear hF
            go_simp
            exact hK _ _ (Grow.refl _) rfl
          refine Plan.det 4 rfl (Grow.refl) ?_
          apply Exists.intro
          refine ⟨fun vs x hR hF K hK => ?_, ?_⟩
          · have f2 := hF 0 _ _ rfl rfl; have hc := HC.out x hR; clear hF
            go_simp
            exact hK _ _ (Grow.refl _) rfl
          refine Plan.det 5 rfl (Grow.refl) ?_
          apply Exists.intro
          refine ⟨fun vs x hR hF K hK => ?_, ?_⟩
          · clear hF
            go_simp
            exact hK _ _ (Grow.refl _) rfl
          refine Plan.det 6 rfl (Grow.refl) ?_
          apply Exists.intro
          refine ⟨fun vs x hR hF K hK => ?_, ?_⟩
          · clear hF
            go_simp
            exact hK _ _ (Grow.refl _) rfl
          refine Plan.det 7 rfl (Grow.refl) ?_
          apply Exists.intro
          refine ⟨fun vs x hR hF K hK => ?_, ?_⟩
          · have f4 := hF 1 _ _ rfl rfl; have f5 := hF 0 _ _ rfl rfl; clear hF
            go_simp
            exact hK _ _ (Grow.refl _) rfl
          refine Plan.det 8 rfl (Grow.refl) ?_
          apply Exists.intro
          refine ⟨fun vs x hR hF K hK => ?_, ?_⟩
          · have f6 := hF 0 _ _ rfl rfl; have hc := HC.out x hR; clear hF
            go_simp
            exact hK _ _ (Grow.refl _) rfl
          refine Plan.det 9 rfl (Grow.refl) ?_
          apply Exists.intro
          refine ⟨fun vs x hR hF K hK => ?_, ?_⟩
          · have f3 := hF 4 _ _ rfl rfl; have f7 := hF 0 _ _ rfl rfl; clear hF
            go_simp
            exact hK _ _ (Grow.refl _) rfl
          refine Plan.nil (fun vs x hR hF => ?_)
          have f0 := hF 8 _ _ rfl; have f1 := hF 7 _ _ rfl; have f2 := hF 6 _ _ rfl; have f3 := hF 5 _ _ rfl; have f4 := hF 4 _ _ rfl; have f5 := hF 3 _ _ rfl; have f6 := hF 2 _ _ rfl; have f7 := hF 1 _ _ rfl; have f8 := hF 0 _ _ rfl
          clear hF
          simp only [f0, f1, f2, f3, f4, f5, f6, f7, f8]
          clear f0 f1 f2 f3 f4 f5 f6 f7 f8
          simp only [List.drop_succ_cons, List.drop_zero]
          have HBX := hid (HB.out.trans ((grow_below hR).mono HB.out.size))
          clear HC hR
          go_wp2_with fail
          refine ⟨⟨k + 1, by omega, by go_num, fun j hj => ?_, HBX.out⟩, ?_⟩
          · rcases Nat.lt_or_ge j k with h | h
            · exact HE.out j h
            · have : j = k := by omega
              subst this
              rw [HK1.out, HK2.out, HXY.out.1, HXY.out.2]
          · simp [intOf]; omega
        · rw [decide_eq_false hxy] at heq
          have HXY := hid hxy
          clear hxy
          go_wp2_with fail
          refine wp_region_inv 9 (Grow) (by kernel_rfl) (by kernel_rfl) (Grow.refl) (fun _ _ _ => Grow.trans) ?_
          simp only [fill, dstOf, Act.put, List.take_succ_cons, List.take_zero, List.getElem?_toArray, List.getElem?_cons_zero, List.getElem?_cons_succ, Option.bind_some, List.setIfInBounds_toArray, List.set_cons_zero, List.set_cons_succ]
          refine Plan.det 1 rfl (Grow.refl) ?_
          apply Exists.intro
          refine ⟨fun vs x hR hF K hK => ?_, ?_⟩
          · clear hF
            go_simp
            exact hK _ _ (Grow.refl _) rfl
          refine Plan.det 2 rfl (Grow.refl) ?_
          apply Exists.intro
          refine ⟨fun vs x hR hF K hK => ?_, ?_⟩
          · clear hF
            go_simp
            exact hK _ _ (Grow.refl _) rfl
          refine Plan.det 3 rfl (Grow.refl) ?_
          apply Exists.intro
          refine ⟨fun vs x hR hF K hK => ?_, ?_⟩
          · have f0 := hF 1 _ _ rfl rfl; have f1 := hF 0 _ _ rfl rfl; clear hF
            go_simp
            exact hK _ _ (Grow.refl _) rfl
          refine Plan.det 4 rfl (Grow.refl) ?_
          apply Exists.intro
          refine ⟨fun vs x hR hF K hK => ?_, ?_⟩
          · have f2 := hF 0 _ _ rfl rfl; have hc := HC.out x hR; clear hF
            go_simp
            exact hK _ _ (Grow.refl _) rfl
          refine Plan.det 5 rfl (Grow.refl) ?_
          apply Exists.intro
          refine ⟨fun vs x hR hF K hK => ?_, ?_⟩
          · clear hF
            go_simp
            exact hK _ _ (Grow.refl _) rfl
          refine Plan.det 6 rfl (Grow.refl) ?_
          apply Exists.intro
          refine ⟨fun vs x hR hF K hK => ?_, ?_⟩
          · clear hF
            go_simp
            exact hK _ _ (Grow.refl _) rfl
          refine Plan.det 7 rfl (Grow.refl) ?_
          apply Exists.intro
          refine ⟨fun vs x hR hF K hK => ?_, ?_⟩
          · have f4 := hF 1 _ _ rfl rfl; have f5 := hF 0 _ _ rfl rfl; clear hF
            go_simp
            exact hK _ _ (Grow.refl _) rfl
          refine Plan.det 8 rfl (Grow.refl) ?_
          apply Exists.intro
          refine ⟨fun vs x hR hF K hK => ?_, ?_⟩
          · have f6 := hF 0 _ _ rfl rfl; have hc := HC.out x hR; clear hF
            go_simp
            exact hK _ _ (Grow.refl _) rfl
          refine Plan.det 9 rfl (Grow.refl) ?_
          apply Exists.intro
          refine ⟨fun vs x hR hF K hK => ?_, ?_⟩
          · have f3 := hF 4 _ _ rfl rfl; have f7 := hF 0 _ _ rfl rfl; clear hF
            go_simp
            exact hK _ _ (Grow.refl _) rfl
          refine Plan.nil (fun vs x hR hF => ?_)
          have f0 := hF 8 _ _ rfl; have f1 := hF 7 _ _ rfl; have f2 := hF 6 _ _ rfl; have f3 := hF 5 _ _ rfl; have f4 := hF 4 _ _ rfl; have f5 := hF 3 _ _ rfl; have f6 := hF 2 _ _ rfl; have f7 := hF 1 _ _ rfl; have f8 := hF 0 _ _ rfl
          clear hF
          simp only [f0, f1, f2, f3, f4, f5, f6, f7, f8]
          clear f0 f1 f2 f3 f4 f5 f6 f7 f8
          simp only [List.drop_succ_cons, List.drop_zero]
          have HBX := hid (HB.out.trans ((grow_below hR).mono HB.out.size))
          clear HC hR
          go_wp2_with fail
          go_ret
          refine ⟨ret_bool ?_, HBX.out⟩
          rw [decide_eq_false]
          intro e
          have h1 := HK1.out
          rw [e, HK2.out] at h1
          injection h1 with h1
          injection h1 with h1 h2
          exact HXY.out ⟨h1.symm, h2.symm⟩
      · have hltI : ¬ (k : Int) < (n : Int) := by omega
        go_wp2_with fail
        go_ret
        refine ⟨ret_bool ?_, HB.out⟩
        rw [decide_eq_true]
        apply List.ext_getElem?
        intro j
        rcases Nat.lt_or_ge j n with h | h
        · exact HE.out j (by omega)
        · rw [List.getElem?_eq_none (by have := HN.out; omega), List.getElem?_eq_none (by have := HN'.out; omega)]
  · have d1 : ((l.length : Int) != (l'.length : Int)) = true := by simp; omega
    have HL := hid hlen
    clear hlen
    go_enter Try.func20, Try.ntmps20
    go_wp2_with fail
    go_ret
    exact ⟨ret_bool (by rw [decide_eq_false]; intro e; exact HL.out (by rw [e])), Below.refl _ _⟩

set_option maxHeartbeats 2000000 in
theorem sameB_any (w : World) (p q : Nat → Prop) (a a' : Option Addr) (c c' : Nat) (l l' : Spans) (h : SpB p w (.slice a l.length c) l) (h' : SpB q w (.slice a' l'.length c') l') (hl : l.length ≤ 1000) (hl' : l'.length ≤ 1000) :
    Calls Try.prog 11 #[.agg #[.slice a l.length c], .agg #[.slice a' l'.length c']] w fun e w' => e = .returned (.bool (decide (l = l'))) ∧ Below w.heap.size w w' := by
  have HB := hid (((Below.refl w.heap.size w).alloc (Nat.le_refl _) (.cells #[.slice a l.length c] 35)).alloc (by simp) (.cells #[.slice a' l'.length c'] 35))
  have HS := hid (SameSpans_any _ p q _ _ l l' (h.below HB.out) (h'.below HB.out) hl hl')
  clear h h'
  go_enter Try.func11, Try.ntmps11
  go_wp2_with fail
  refine HS.out.mono ?_
  rintro e w1 ⟨rfl, hb⟩
  have HB1 := hid (HB.out.trans (hb.mono (by simp; omega)))
  clear hb HS
  go_wp2_with fail
  go_ret
  exact ⟨rfl, HB1.out⟩

/-- What a job comes to, reckoned with fuel. -/
def runJ (s : List UInt8) (lines : Bool) : Nat → Job → Spans → Kont → Nat → Option (Out × Nat)
  | 0, _, _, _, _ => none
  | f + 1, .try e i k, sp, K, n => match n with
    | 0 => some (.over, 0)
    | n + 1 => match e with
      | .mk p xs =>
        if p.op = 3 then runJ s lines f (.cat xs i k) sp K n
        else if p.op = 4 then runJ s lines f (.alt xs i k) sp K n
        else if p.op = 5 then (match xs with | [x] => runJ s lines f (.rep p x 0 i k) sp K n | _ => none)
        else if p.op = 6 then (match xs with | [x] => runJ s lines f (.try x i k) sp (.mark p.gr.toNat i k K) n | _ => none)
        else if plainOf s lines p i k sp then runJ s lines f .next sp K n else some (.fail, n)
  | f + 1, .cat xs i k, sp, K, n => match xs with
    | [x] => runJ s lines f (.try x i k) sp K n
    | x :: y :: ys => runJ s lines f (.catj x (y :: ys) i k (k + 1 - i)) sp K n
    | [] => none
  | f + 1, .catj x xs i k c, sp, K, n => match c with
    | 0 => some (.fail, n)
    | c + 1 => match runJ s lines f (.try x i (i + c)) sp (.cat xs (i + c) k K) n with
      | some (.fail, m) => runJ s lines f (.catj x xs i k c) sp K m
      | r => r
  | f + 1, .alt xs i k, sp, K, n => match xs with
    | [] => some (.fail, n)
    | x :: xs => match runJ s lines f (.try x i k) sp K n with
      | some (.fail, m) => runJ s lines f (.alt xs i k) sp K m
      | r => r
  | f + 1, .rep p x c i k, sp, K, n => if p.hi = -1 ∨ (c : Int) < p.hi then runJ s lines f (.repj p x c i k (repLow p c i) (k + 1 - repLow p c i)) sp K n else runJ s lines f (.repj p x c i k (repLow p c i) 0) sp K n
  | f + 1, .repj p x c i k lo q, sp, K, n => match q with
    | 0 => if i = k ∧ p.lo ≤ (c : Int) then runJ s lines f .next sp K n else some (.fail, n)
    | q + 1 => match runJ s lines f (.try x i (lo + q)) (unset sp (withinOf x)) (.rep p x (c + 1) (lo + q) k K) n with
      | some (.fail, m) => runJ s lines f (.repj p x c i k lo q) sp K m
      | r => r
  | f + 1, .next, sp, K, n => match K with
    | .done => some (.found sp, n)
    | .mark g i k K => runJ s lines f .next (sp.set (g - 1) ((i : Int), (k : Int))) K n
    | .cat xs j k K => runJ s lines f (.cat xs j k) sp K n
    | .rep p x c j k K => runJ s lines f (.rep p x c j k) sp K n
theorem runJ_sound (s : List UInt8) (lines : Bool) : ∀ (f : Nat) (J : Job) (sp : Spans) (K : Kont) (n : Nat) (o : Out) (m : Nat), runJ s lines f J sp K n = some (o, m) → Ev s lines J sp K n o m := by
  intro f
  induction f with
  | zero => intro J sp K n o m h; simp [runJ] at h
  | succ f ih =>
    intro J sp K n o m h
    cases J with
    | «try» e i k =>
      cases n with
      | zero => simp only [runJ, Option.some.injEq, Prod.mk.injEq] at h; obtain ⟨rfl, rfl⟩ := h; exact .tryOver
      | succ n =>
        obtain ⟨p, xs⟩ := e
        simp only [runJ] at h
        split at h
        · rename_i h3; exact .tryCat h3 (ih _ _ _ _ _ _ h)
        split at h
        · rename_i h4; exact .tryAlt h4 (ih _ _ _ _ _ _ h)
        split at h
        · rename_i h5
          split at h
          · exact .tryRep h5 (ih _ _ _ _ _ _ h)
          · cases h
        split at h
        · rename_i h6
          split at h
          · exact .tryGroup h6 (ih _ _ _ _ _ _ h)
          · cases h
        rename_i h3 h4 h5 h6
        have hnp : ¬ partOp p := by unfold partOp; omega
        split at h
        · rename_i hp; exact .leaf hnp hp (ih _ _ _ _ _ _ h)
        · rename_i hp
          simp only [Option.some.injEq, Prod.mk.injEq] at h
          obtain ⟨rfl, rfl⟩ := h
          exact .leafFail hnp (by simpa using hp)
    | cat xs i k =>
      match xs, h with
      | [x], h => exact .catOne (ih _ _ _ _ _ _ (by simpa only [runJ] using h))
      | x :: y :: ys, h => exact .catMore (ih _ _ _ _ _ _ (by simpa only [runJ] using h))
      | [], h => simp [runJ] at h
    | catj x xs i k c =>
      cases c with
      | zero => simp only [runJ, Option.some.injEq, Prod.mk.injEq] at h; obtain ⟨rfl, rfl⟩ := h; exact .catjNone
      | succ c =>
        simp only [runJ] at h
        split at h
        · rename_i m' hx; exact .catjMiss (ih _ _ _ _ _ _ hx) (ih _ _ _ _ _ _ h)
        · rename_i hy hx; exact .catjHit (ih _ _ _ _ _ _ h) (fun e => hx m (by rw [h, e]))
    | alt xs i k =>
      cases xs with
      | nil => simp only [runJ, Option.some.injEq, Prod.mk.injEq] at h; obtain ⟨rfl, rfl⟩ := h; exact .altNone
      | cons x xs =>
        simp only [runJ] at h
        split at h
        · rename_i m' hx; exact .altMiss (ih _ _ _ _ _ _ hx) (ih _ _ _ _ _ _ h)
        · rename_i hy hx; exact .altHit (ih _ _ _ _ _ _ h) (fun e => hx m (by rw [h, e]))
    | rep p x c i k =>
      simp only [runJ] at h
      split at h
      · rename_i hm; exact .repMay hm (ih _ _ _ _ _ _ h)
      · rename_i hm; exact .repNot hm (ih _ _ _ _ _ _ h)
    | repj p x c i k lo q =>
      cases q with
      | zero =>
        simp only [runJ] at h
        split at h
        · rename_i hm; exact .repjEnd hm (ih _ _ _ _ _ _ h)
        · rename_i hm
          simp only [Option.some.injEq, Prod.mk.injEq] at h
          obtain ⟨rfl, rfl⟩ := h
          exact .repjFail hm
      | succ q =>
        simp only [runJ] at h
        split at h
        · rename_i m' hx; exact .repjMiss (ih _ _ _ _ _ _ hx) (ih _ _ _ _ _ _ h)
        · rename_i hy hx; exact .repjHit (ih _ _ _ _ _ _ h) (fun e => hx m (by rw [h, e]))
    | next =>
      cases K with
      | done => simp only [runJ, Option.some.injEq, Prod.mk.injEq] at h; obtain ⟨rfl, rfl⟩ := h; exact .nextDone
      | mark g i k K => exact .nextMark (ih _ _ _ _ _ _ (by simpa only [runJ] using h))
      | cat xs j k K => exact .nextCat (ih _ _ _ _ _ _ (by simpa only [runJ] using h))
      | rep p x c j k K => exact .nextRep (ih _ _ _ _ _ _ (by simpa only [runJ] using h))
end Go.Proofs.Ytnnocekencaadaa
