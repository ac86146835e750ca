/- The law RetreeComposes: its walk answers true. -/
import Derived.Test.YtibfnmkeghkdpaaCompLaw
import Derived.Test.YtibfnmkeghkdpaaInvF
import Derived.Test.YtibfnmkeghkdpaaLawCC
import Derived.Deep.DeepCutAuto
namespace Go.Proofs.Ytibfnmkeghkdpaa
open Go.RowKit
attribute [local go_sem] gives givesUpon

-- def CA := [.int .i64 p.op, .int .u64 p.set.a, .int .u64 p.set.b, .int .u64 p.set.c, .int .u64 p.set.d, .int .i64 p.lo, .int .i64 p.hi, .int .i64 p.gr, .slice ad m cap]
-- def CB := [.int .i64 q.op, .int .u64 q.set.a, .int .u64 q.set.b, .int .u64 q.set.c, .int .u64 q.set.d, .int .i64 q.lo, .int .i64 q.hi, .int .i64 q.gr, .slice ae me ce]
-- def C18 := [.int .i64 p.op, .int .u64 p.set.a, .int .u64 p.set.b, .int .u64 p.set.c, .int .u64 p.set.d, .int .i64 p.lo, .int .i64 p.hi, .int .i64 p.gr, .slice ad m cap, .int .i64 q.op, .int .u64 q.set.a, .int .u64 q.set.b, .int .u64 q.set.c, .int .u64 q.set.d, .int .i64 q.lo, .int .i64 q.hi, .int .i64 q.gr, .slice ae me ce]
-- def Z9 := [.int .i64 0, .int .u64 0, .int .u64 0, .int .u64 0, .int .u64 0, .int .i64 0, .int .i64 0, .int .i64 0, .slice none 0 0]
-- def W2 := ((w.alloc (.cells #[.int .i64 p.op, .int .u64 p.set.a, .int .u64 p.set.b, .int .u64 p.set.c, .int .u64 p.set.d, .int .i64 p.lo, .int .i64 p.hi, .int .i64 p.gr, .slice ad m cap] 28)).alloc (.cells #[.int .i64 q.op, .int .u64 q.set.a, .int .u64 q.set.b, .int .u64 q.set.c, .int .u64 q.set.d, .int .i64 q.lo, .int .i64 q.hi, .int .i64 q.gr, .slice ae me ce] 28))

/-- What lasts: the four trees in their blocks. -/
structure Cp (w : World) (a b : Re) (B5 B6 : Nat) (ca cb c5 c6 : List Value) (x : World) : Prop where
  ra : Row x w.heap.size ca 28
  rb : Row x (w.heap.size + 1) cb 28
  r5 : Row x B5 c5 28
  r6 : Row x B6 c6 28
  ia : a.In x ca
  ib : b.In x cb
  i5 : (a.cat2 b).In x c5
  i6 : (a.alt2 b).In x c6
  bw : Below w.heap.size w x
theorem Cp.later {w : World} {a b : Re} {B5 B6 : Nat} {ca cb c5 c6 : List Value} {x y : World} (h : Cp w a b B5 B6 ca cb c5 c6 x) (hb : Below x.heap.size x y) : Cp w a b B5 B6 ca cb c5 c6 y :=
  ⟨h.ra.below hb h.ra.lt, h.rb.below hb h.rb.lt, h.r5.below hb h.r5.lt, h.r6.below hb h.r6.lt, h.ia.below hb, h.ib.below hb, h.i5.below hb, h.i6.below hb, h.bw.trans (hb.mono h.bw.size)⟩
theorem Row.ne_len {w : World} {B B' : Nat} {c1 c2 : List Value} {T T' : TypeId} (h1 : Row w B c1 T) (h2 : Row w B' c2 T') (hl : c1.length ≠ c2.length) : B ≠ B' := by
  rintro rfl
  unfold Row at h1 h2
  rw [h1] at h2
  injection h2 with h2
  injection h2 with h2
  exact hl (by have := congrArg Array.size h2; simpa using this)
theorem eq_self (s : Cs) (x : World) : (Op.equalIn 10000 25 (.agg #[.int .u64 s.a, .int .u64 s.b, .int .u64 s.c, .int .u64 s.d]) (.agg #[.int .u64 s.a, .int .u64 s.b, .int .u64 s.c, .int .u64 s.d])).run Try.prog x = .ok true x := by
  rw [run_eqIn_cs]; simp
theorem Re.facts_wf {t : Re} {w : World} {cs : List Value} (h : t.In w cs) : t.facts.wf := by
  by_cases he : t.err = 0
  · rw [Re.facts_some he]; exact (Re.learn_wf t w cs _ h (fun k f hf => by cases hf)).1
  · rw [Re.facts_zero he]; exact Facts.zero_wf

set_option maxRecDepth 100000 in
set_option maxHeartbeats 8000000 in
theorem LawComposes_any (a b : Re) (w : World) (ca cb : List Value) (hA : a.In w ca) (hB : b.In w cb) (hsz : a.size + b.size ≤ 1048575) :
    Calls Try.prog 9 #[.agg ca.toArray, .agg cb.toArray] w fun e w' => e = .returned (.bool true) ∧ Below w.heap.size w w' := by
  obtain ⟨p, ad, m, cap, rfl⟩ := Re.cells_shape hA
  obtain ⟨q, ae, me, ce, rfl⟩ := Re.cells_shape hB
  have hb0 : Below w.heap.size w ((w.alloc (.cells #[.int .i64 p.op, .int .u64 p.set.a, .int .u64 p.set.b, .int .u64 p.set.c, .int .u64 p.set.d, .int .i64 p.lo, .int .i64 p.hi, .int .i64 p.gr, .slice ad m cap] 28)).alloc (.cells #[.int .i64 q.op, .int .u64 q.set.a, .int .u64 q.set.b, .int .u64 q.set.c, .int .u64 q.set.d, .int .i64 q.lo, .int .i64 q.hi, .int .i64 q.gr, .slice ae me ce] 28)) := ((Below.refl _ w).alloc (Nat.le_refl _) _).alloc (by simp) _
  have HW : Hid (Row ((w.alloc (.cells #[.int .i64 p.op, .int .u64 p.set.a, .int .u64 p.set.b, .int .u64 p.set.c, .int .u64 p.set.d, .int .i64 p.lo, .int .i64 p.hi, .int .i64 p.gr, .slice ad m cap] 28)).alloc (.cells #[.int .i64 q.op, .int .u64 q.set.a, .int .u64 q.set.b, .int .u64 q.set.c, .int .u64 q.set.d, .int .i64 q.lo, .int .i64 q.hi, .int .i64 q.gr, .slice ae me ce] 28)) w.heap.size [.int .i64 p.op, .int .u64 p.set.a, .int .u64 p.set.b, .int .u64 p.set.c, .int .u64 p.set.d, .int .i64 p.lo, .int .i64 p.hi, .int .i64 p.gr, .slice ad m cap] 28 ∧ Row ((w.alloc (.cells #[.int .i64 p.op, .int .u64 p.set.a, .int .u64 p.set.b, .int .u64 p.set.c, .int .u64 p.set.d, .int .i64 p.lo, .int .i64 p.hi, .int .i64 p.gr, .slice ad m cap] 28)).alloc (.cells #[.int .i64 q.op, .int .u64 q.set.a, .int .u64 q.set.b, .int .u64 q.set.c, .int .u64 q.set.d, .int .i64 q.lo, .int .i64 q.hi, .int .i64 q.gr, .slice ae me ce] 28)) (w.heap.size + 1) [.int .i64 q.op, .int .u64 q.set.a, .int .u64 q.set.b, .int .u64 q.set.c, .int .u64 q.set.d, .int .i64 q.lo, .int .i64 q.hi, .int .i64 q.gr, .slice ae me ce] 28 ∧ Below w.heap.size w ((w.alloc (.cells #[.int .i64 p.op, .int .u64 p.set.a, .int .u64 p.set.b, .int .u64 p.set.c, .int .u64 p.set.d, .int .i64 p.lo, .int .i64 p.hi, .int .i64 p.gr, .slice ad m cap] 28)).alloc (.cells #[.int .i64 q.op, .int .u64 q.set.a, .int .u64 q.set.b, .int .u64 q.set.c, .int .u64 q.set.d, .int .i64 q.lo, .int .i64 q.hi, .int .i64 q.gr, .slice ae me ce] 28)) ∧ a.In ((w.alloc (.cells #[.int .i64 p.op, .int .u64 p.set.a, .int .u64 p.set.b, .int .u64 p.set.c, .int .u64 p.set.d, .int .i64 p.lo, .int .i64 p.hi, .int .i64 p.gr, .slice ad m cap] 28)).alloc (.cells #[.int .i64 q.op, .int .u64 q.set.a, .int .u64 q.set.b, .int .u64 q.set.c, .int .u64 q.set.d, .int .i64 q.lo, .int .i64 q.hi, .int .i64 q.gr, .slice ae me ce] 28)) [.int .i64 p.op, .int .u64 p.set.a, .int .u64 p.set.b, .int .u64 p.set.c, .int .u64 p.set.d, .int .i64 p.lo, .int .i64 p.hi, .int .i64 p.gr, .slice ad m cap] ∧ b.In ((w.alloc (.cells #[.int .i64 p.op, .int .u64 p.set.a, .int .u64 p.set.b, .int .u64 p.set.c, .int .u64 p.set.d, .int .i64 p.lo, .int .i64 p.hi, .int .i64 p.gr, .slice ad m cap] 28)).alloc (.cells #[.int .i64 q.op, .int .u64 q.set.a, .int .u64 q.set.b, .int .u64 q.set.c, .int .u64 q.set.d, .int .i64 q.lo, .int .i64 q.hi, .int .i64 q.gr, .slice ae me ce] 28)) [.int .i64 q.op, .int .u64 q.set.a, .int .u64 q.set.b, .int .u64 q.set.c, .int .u64 q.set.d, .int .i64 q.lo, .int .i64 q.hi, .int .i64 q.gr, .slice ae me ce]) :=
    ⟨(Row.new (cs := [.int .i64 p.op, .int .u64 p.set.a, .int .u64 p.set.b, .int .u64 p.set.c, .int .u64 p.set.d, .int .i64 p.lo, .int .i64 p.hi, .int .i64 p.gr, .slice ad m cap]) rfl).alloc _, Row.new (cs := [.int .i64 q.op, .int .u64 q.set.a, .int .u64 q.set.b, .int .u64 q.set.c, .int .u64 q.set.d, .int .i64 q.lo, .int .i64 q.hi, .int .i64 q.gr, .slice ae me ce]) (by simp), hb0, hA.below hb0, hB.below hb0⟩
  have HC := hid (fun (x : World) (hx : Grow (World.drew ((w.alloc (.cells #[.int .i64 p.op, .int .u64 p.set.a, .int .u64 p.set.b, .int .u64 p.set.c, .int .u64 p.set.d, .int .i64 p.lo, .int .i64 p.hi, .int .i64 p.gr, .slice ad m cap] 28)).alloc (.cells #[.int .i64 q.op, .int .u64 q.set.a, .int .u64 q.set.b, .int .u64 q.set.c, .int .u64 q.set.d, .int .i64 q.lo, .int .i64 q.hi, .int .i64 q.gr, .slice ae me ce] 28))) x) => And.intro ((HW.out.1.drew.below hx HW.out.1.drew.lt).c9) ((HW.out.2.1.drew.below hx HW.out.2.1.drew.lt).c9))
  have HSA := hid (show a.size ≤ 1048576 by omega)
  have HSB := hid (show b.size ≤ 1048576 by omega)
  have HS5 := hid (show (a.cat2 b).size ≤ 1048576 by rw [cat2_size]; omega)
  have HS6 := hid (show (a.alt2 b).size ≤ 1048576 by rw [alt2_size]; omega)
  have hn1 : a.size ≤ 1048576 := by omega
  have hn2 : b.size ≤ 1048576 := by omega
  have HWA := hid (Re.facts_wf hA)
  have HWB := hid (Re.facts_wf hB)
  have HA0 := hid hA
  have HB0 := hid hB
  clear hA hB hb0 hsz
  go_enter Try.func9, Try.ntmps9
  go_wp2_with fail
  refine wp_region_invF 10 (Grow) (by kernel_rfl) (by kernel_rfl) (Grow.refl) (fun _ _ _ => Grow.trans) ?_
  simp only [fill, dstOf, Act.put, List.take_succ_cons, List.take_zero, List.getElem?_toArray, List.getElem?_cons_zero, List.getElem?_cons_succ, Option.bind_some, List.setIfInBounds_toArray, List.set_cons_zero, List.set_cons_succ]
  refine PlanF.det 1 rfl (Grow.refl) ?_
  apply Exists.intro
  refine ⟨fun vs x hR hF K hK => ?_, ?_⟩
  · have hc := HC.out x hR; clear hF
    go_simp
    exact hK _ _ (Grow.refl _) rfl
  refine PlanF.det 2 rfl (Grow.refl) ?_
  apply Exists.intro
  refine ⟨fun vs x hR hF K hK => ?_, ?_⟩
  · have hc := HC.out x hR; clear hF
    go_simp
    exact hK _ _ (Grow.refl _) rfl
  refine PlanF.rel 3 rfl (Grow.refl) (fun v y => ∃ b' : Nat, v = .slice (some ⟨b', 0, none⟩) 2 2 ∧ Row y b' [.int .i64 p.op, .int .u64 p.set.a, .int .u64 p.set.b, .int .u64 p.set.c, .int .u64 p.set.d, .int .i64 p.lo, .int .i64 p.hi, .int .i64 p.gr, .slice ad m cap, .int .i64 q.op, .int .u64 q.set.a, .int .u64 q.set.b, .int .u64 q.set.c, .int .u64 q.set.d, .int .i64 q.lo, .int .i64 q.hi, .int .i64 q.gr, .slice ae me ce] 28) (fun v a b hR ⟨B, h1, h2⟩ => ⟨B, h1, h2.below hR h2.lt⟩) (fun vs x hR hF K hK => ?_) ?_
  · have f0 := hF 1 _ _ rfl rfl; have f1 := hF 0 _ _ rfl rfl
    go_simp
    exact hK _ _ (Grow.alloc _ _) ⟨_, rfl, Row.at _ _ _⟩
  refine PlanF.rel 4 rfl (Grow.refl) (fun v y => ∃ b' : Nat, v = .agg #[.int .i64 3, .int .u64 0, .int .u64 0, .int .u64 0, .int .u64 0, .int .i64 0, .int .i64 0, .int .i64 0, .slice (some ⟨b', 0, none⟩) 2 2] ∧ Row y b' [.int .i64 p.op, .int .u64 p.set.a, .int .u64 p.set.b, .int .u64 p.set.c, .int .u64 p.set.d, .int .i64 p.lo, .int .i64 p.hi, .int .i64 p.gr, .slice ad m cap, .int .i64 q.op, .int .u64 q.set.a, .int .u64 q.set.b, .int .u64 q.set.c, .int .u64 q.set.d, .int .i64 q.lo, .int .i64 q.hi, .int .i64 q.gr, .slice ae me ce] 28) (fun v a b hR ⟨B, h1, h2⟩ => ⟨B, h1, h2.below hR h2.lt⟩) (fun vs x hR hF K hK => ?_) ?_
  · have f2 := hF 0 _ _ rfl rfl
    obtain ⟨b', e2, hr⟩ := f2
    go_simp
    refine (Node_any 3 _ _ _ x).mono ?_
    rintro e x1 ⟨rfl, hbe⟩
    exact ⟨_, rfl, hK _ _ hbe ⟨b', rfl, hr.below hbe hr.lt⟩⟩
  refine PlanF.det 5 rfl (Grow.refl) ?_
  apply Exists.intro
  refine ⟨fun vs x hR hF K hK => ?_, ?_⟩
  · have hc := HC.out x hR; clear hF
    go_simp
    exact hK _ _ (Grow.refl _) rfl
  refine PlanF.det 6 rfl (Grow.refl) ?_
  apply Exists.intro
  refine ⟨fun vs x hR hF K hK => ?_, ?_⟩
  · have hc := HC.out x hR; clear hF
    go_simp
    exact hK _ _ (Grow.refl _) rfl
  refine PlanF.rel 7 rfl (Grow.refl) (fun v y => ∃ b' : Nat, v = .slice (some ⟨b', 0, none⟩) 2 2 ∧ Row y b' [.int .i64 p.op, .int .u64 p.set.a, .int .u64 p.set.b, .int .u64 p.set.c, .int .u64 p.set.d, .int .i64 p.lo, .int .i64 p.hi, .int .i64 p.gr, .slice ad m cap, .int .i64 q.op, .int .u64 q.set.a, .int .u64 q.set.b, .int .u64 q.set.c, .int .u64 q.set.d, .int .i64 q.lo, .int .i64 q.hi, .int .i64 q.gr, .slice ae me ce] 28) (fun v a b hR ⟨B, h1, h2⟩ => ⟨B, h1, h2.below hR h2.lt⟩) (fun vs x hR hF K hK => ?_) ?_
  · have f4 := hF 1 _ _ rfl rfl; have f5 := hF 0 _ _ rfl rfl
    go_simp
    exact hK _ _ (Grow.alloc _ _) ⟨_, rfl, Row.at _ _ _⟩
  refine PlanF.rel 8 rfl (Grow.refl) (fun v y => ∃ b' : Nat, v = .agg #[.int .i64 4, .int .u64 0, .int .u64 0, .int .u64 0, .int .u64 0, .int .i64 0, .int .i64 0, .int .i64 0, .slice (some ⟨b', 0, none⟩) 2 2] ∧ Row y b' [.int .i64 p.op, .int .u64 p.set.a, .int .u64 p.set.b, .int .u64 p.set.c, .int .u64 p.set.d, .int .i64 p.lo, .int .i64 p.hi, .int .i64 p.gr, .slice ad m cap, .int .i64 q.op, .int .u64 q.set.a, .int .u64 q.set.b, .int .u64 q.set.c, .int .u64 q.set.d, .int .i64 q.lo, .int .i64 q.hi, .int .i64 q.gr, .slice ae me ce] 28) (fun v a b hR ⟨B, h1, h2⟩ => ⟨B, h1, h2.below hR h2.lt⟩) (fun vs x hR hF K hK => ?_) ?_
  · have f3 := hF 3 _ _ rfl rfl; have f6 := hF 0 _ _ rfl rfl
    obtain ⟨b', e2, hr⟩ := f6
    go_simp
    refine (Node_any 4 _ _ _ x).mono ?_
    rintro e x1 ⟨rfl, hbe⟩
    exact ⟨_, rfl, hK _ _ hbe ⟨b', rfl, hr.below hbe hr.lt⟩⟩
  refine PlanF.born 9 rfl rfl (fun v x => ∃ b, v = .pointer (some ⟨b, 0, none⟩) ∧ w.heap.size + 2 ≤ b ∧ Row x b [.int .i64 0, .int .u64 0, .int .u64 0, .int .u64 0, .int .u64 0, .int .i64 0, .int .i64 0, .int .i64 0, .slice none 0 0] 28) (fun v x y hR ⟨b, h1, h2, h3⟩ => ⟨b, h1, h2, h3.below hR h3.lt⟩) (fun v x ⟨b, h1, h2, h3⟩ e => by have h4 := h3.lt; rw [h1] at e; injection e with e; injection e with e; injection e with e; omega) (fun vs x hR K hK => ?_) ?_
  · skip
    go_simp
    exact hK _ _ (Grow.alloc _ _) ⟨_, rfl, (by have := Grow.size hR; simp at this; omega), Row.at _ _ _⟩ rfl
  refine PlanF.born 10 rfl rfl (fun v x => ∃ b, v = .pointer (some ⟨b, 0, none⟩) ∧ w.heap.size + 2 ≤ b ∧ Row x b [.int .i64 0, .int .u64 0, .int .u64 0, .int .u64 0, .int .u64 0, .int .i64 0, .int .i64 0, .int .i64 0, .slice none 0 0] 28) (fun v x y hR ⟨b, h1, h2, h3⟩ => ⟨b, h1, h2, h3.below hR h3.lt⟩) (fun v x ⟨b, h1, h2, h3⟩ e => by have h4 := h3.lt; rw [h1] at e; injection e with e; injection e with e; injection e with e; omega) (fun vs x hR K hK => ?_) ?_
  · skip
    go_simp
    exact hK _ _ (Grow.alloc _ _) ⟨_, rfl, (by have := Grow.size hR; simp at this; omega), Row.at _ _ _⟩ rfl
  refine PlanF.nil (fun vs x hR hF hD => ?_)
  have hne8_9 := hD 8 9 (by decide) (by decide) (by decide)
  clear hD
  have f0 := hF 9 _ _ rfl; have f1 := hF 8 _ _ rfl; have f2 := hF 7 _ _ rfl; have f3 := hF 6 _ _ rfl; have f4 := hF 5 _ _ rfl; have f5 := hF 4 _ _ rfl; have f6 := hF 3 _ _ rfl; have f7 := hF 2 _ _ rfl; have f8 := hF 1 _ _ rfl; have f9 := hF 0 _ _ rfl
  clear hF
  simp only [f0, f1, f4, f5]
  clear f0 f1 f4 f5
  simp only [List.drop_succ_cons, List.drop_zero]
  obtain ⟨b2, e2, -⟩ := f2
  obtain ⟨b3, e3, hr3⟩ := f3
  obtain ⟨b6, e6, -⟩ := f6
  obtain ⟨b7, e7, hr7⟩ := f7
  obtain ⟨B5, e8, h5, hr5⟩ := f8
  obtain ⟨B6, e9, h6, hr6⟩ := f9
  have hB56 : B5 ≠ B6 := fun e => hne8_9 (by rw [e8, e9, e])
  have hB65 : B6 ≠ B5 := Ne.symm hB56
  simp only [e2, e3, e6, e7, e8, e9]
  have q5 := hr5.c9
  have q6 := hr6.c9
  have z5 := hr5.lt
  have z6 := hr6.lt
  have HRR := hid (And.intro hR (And.intro hr3 (And.intro hr7 (And.intro hr5 hr6))))
  clear hne8_9 e2 e3 e6 e7 e8 e9 hR hr3 hr7 hr5 hr6 HC
  go_upto_region 2 with fail
  have n35 : b3 ≠ B5 := Row.ne_len HRR.out.2.1 HRR.out.2.2.2.1 (by simp)
  have n36 : b3 ≠ B6 := Row.ne_len HRR.out.2.1 HRR.out.2.2.2.2 (by simp)
  have n75 : b7 ≠ B5 := Row.ne_len HRR.out.2.2.1 HRR.out.2.2.2.1 (by simp)
  have n76 : b7 ≠ B6 := Row.ne_len HRR.out.2.2.1 HRR.out.2.2.2.2 (by simp)
  have hxa := HW.out.1.drew.below HRR.out.1 HW.out.1.drew.lt
  have hxb := HW.out.2.1.drew.below HRR.out.1 HW.out.2.1.drew.lt
  have hbx : Below w.heap.size w x := HW.out.2.2.1.drew.trans (HRR.out.1.mono HW.out.2.2.1.size)
  have sa := (hxa.other9 (B' := B5) (by omega) (.int .i64 3) (.int .u64 0) (.int .u64 0) (.int .u64 0) (.int .u64 0) (.int .i64 0) (.int .i64 0) (.int .i64 0) (.slice (some ⟨b3, 0, none⟩) 2 2)).other9 (B' := B6) (by omega) (.int .i64 4) (.int .u64 0) (.int .u64 0) (.int .u64 0) (.int .u64 0) (.int .i64 0) (.int .i64 0) (.int .i64 0) (.slice (some ⟨b7, 0, none⟩) 2 2)
  have sb := (hxb.other9 (B' := B5) (by omega) (.int .i64 3) (.int .u64 0) (.int .u64 0) (.int .u64 0) (.int .u64 0) (.int .i64 0) (.int .i64 0) (.int .i64 0) (.slice (some ⟨b3, 0, none⟩) 2 2)).other9 (B' := B6) (by omega) (.int .i64 4) (.int .u64 0) (.int .u64 0) (.int .u64 0) (.int .u64 0) (.int .i64 0) (.int .i64 0) (.int .i64 0) (.slice (some ⟨b7, 0, none⟩) 2 2)
  have s5 := (HRR.out.2.2.2.1.set9 (.int .i64 3) (.int .u64 0) (.int .u64 0) (.int .u64 0) (.int .u64 0) (.int .i64 0) (.int .i64 0) (.int .i64 0) (.slice (some ⟨b3, 0, none⟩) 2 2)).other9 hB56 (.int .i64 4) (.int .u64 0) (.int .u64 0) (.int .u64 0) (.int .u64 0) (.int .i64 0) (.int .i64 0) (.int .i64 0) (.slice (some ⟨b7, 0, none⟩) 2 2)
  have s6 := (HRR.out.2.2.2.2.other9 hB65 (.int .i64 3) (.int .u64 0) (.int .u64 0) (.int .u64 0) (.int .u64 0) (.int .i64 0) (.int .i64 0) (.int .i64 0) (.slice (some ⟨b3, 0, none⟩) 2 2)).set9 (.int .i64 4) (.int .u64 0) (.int .u64 0) (.int .u64 0) (.int .u64 0) (.int .i64 0) (.int .i64 0) (.int .i64 0) (.slice (some ⟨b7, 0, none⟩) 2 2)
  have s3 := (HRR.out.2.1.other9 n35 (.int .i64 3) (.int .u64 0) (.int .u64 0) (.int .u64 0) (.int .u64 0) (.int .i64 0) (.int .i64 0) (.int .i64 0) (.slice (some ⟨b3, 0, none⟩) 2 2)).other9 n36 (.int .i64 4) (.int .u64 0) (.int .u64 0) (.int .u64 0) (.int .u64 0) (.int .i64 0) (.int .i64 0) (.int .i64 0) (.slice (some ⟨b7, 0, none⟩) 2 2)
  have s7 := (HRR.out.2.2.1.other9 n75 (.int .i64 3) (.int .u64 0) (.int .u64 0) (.int .u64 0) (.int .u64 0) (.int .i64 0) (.int .i64 0) (.int .i64 0) (.slice (some ⟨b3, 0, none⟩) 2 2)).other9 n76 (.int .i64 4) (.int .u64 0) (.int .u64 0) (.int .u64 0) (.int .u64 0) (.int .i64 0) (.int .i64 0) (.int .i64 0) (.slice (some ⟨b7, 0, none⟩) 2 2)
  have sw := below9 (below9 hbx (by omega : w.heap.size ≤ B5) (.int .i64 3) (.int .u64 0) (.int .u64 0) (.int .u64 0) (.int .u64 0) (.int .i64 0) (.int .i64 0) (.int .i64 0) (.slice (some ⟨b3, 0, none⟩) 2 2)) (by omega : w.heap.size ≤ B6) (.int .i64 4) (.int .u64 0) (.int .u64 0) (.int .u64 0) (.int .u64 0) (.int .i64 0) (.int .i64 0) (.int .i64 0) (.slice (some ⟨b7, 0, none⟩) 2 2)
  generalize ((((((((((((((((((x.setCell ⟨B5, 0, none⟩ (.int .i64 3)).setCell ⟨B5, 1, none⟩ (.int .u64 0)).setCell ⟨B5, 2, none⟩ (.int .u64 0)).setCell ⟨B5, 3, none⟩ (.int .u64 0)).setCell ⟨B5, 4, none⟩ (.int .u64 0)).setCell ⟨B5, 5, none⟩ (.int .i64 0)).setCell ⟨B5, 6, none⟩ (.int .i64 0)).setCell ⟨B5, 7, none⟩ (.int .i64 0)).setCell ⟨B5, 8, none⟩ (.slice (some ⟨b3, 0, none⟩) 2 2)).setCell ⟨B6, 0, none⟩ (.int .i64 4)).setCell ⟨B6, 1, none⟩ (.int .u64 0)).setCell ⟨B6, 2, none⟩ (.int .u64 0)).setCell ⟨B6, 3, none⟩ (.int .u64 0)).setCell ⟨B6, 4, none⟩ (.int .u64 0)).setCell ⟨B6, 5, none⟩ (.int .i64 0)).setCell ⟨B6, 6, none⟩ (.int .i64 0)).setCell ⟨B6, 7, none⟩ (.int .i64 0)).setCell ⟨B6, 8, none⟩ (.slice (some ⟨b7, 0, none⟩) 2 2)) = y at sa sb s5 s6 s3 s7 sw ⊢
  have CP0 : Hid (Cp w a b B5 B6 [.int .i64 p.op, .int .u64 p.set.a, .int .u64 p.set.b, .int .u64 p.set.c, .int .u64 p.set.d, .int .i64 p.lo, .int .i64 p.hi, .int .i64 p.gr, .slice ad m cap] [.int .i64 q.op, .int .u64 q.set.a, .int .u64 q.set.b, .int .u64 q.set.c, .int .u64 q.set.d, .int .i64 q.lo, .int .i64 q.hi, .int .i64 q.gr, .slice ae me ce] [.int .i64 3, .int .u64 0, .int .u64 0, .int .u64 0, .int .u64 0, .int .i64 0, .int .i64 0, .int .i64 0, .slice (some ⟨b3, 0, none⟩) 2 2] [.int .i64 4, .int .u64 0, .int .u64 0, .int .u64 0, .int .u64 0, .int .i64 0, .int .i64 0, .int .i64 0, .slice (some ⟨b7, 0, none⟩) 2 2] y) := ⟨sa, sb, s5, s6, HA0.out.below sw, HB0.out.below sw, node2_in (c1 := [.int .i64 p.op, .int .u64 p.set.a, .int .u64 p.set.b, .int .u64 p.set.c, .int .u64 p.set.d, .int .i64 p.lo, .int .i64 p.hi, .int .i64 p.gr, .slice ad m cap]) (c2 := [.int .i64 q.op, .int .u64 q.set.a, .int .u64 q.set.b, .int .u64 q.set.c, .int .u64 q.set.d, .int .i64 q.lo, .int .i64 q.hi, .int .i64 q.gr, .slice ae me ce]) (Pay.of_wf (I64_of (by omega))) s3 (HA0.out.below sw) (HB0.out.below sw) rfl, node2_in (c1 := [.int .i64 p.op, .int .u64 p.set.a, .int .u64 p.set.b, .int .u64 p.set.c, .int .u64 p.set.d, .int .i64 p.lo, .int .i64 p.hi, .int .i64 p.gr, .slice ad m cap]) (c2 := [.int .i64 q.op, .int .u64 q.set.a, .int .u64 q.set.b, .int .u64 q.set.c, .int .u64 q.set.d, .int .i64 q.lo, .int .i64 q.hi, .int .i64 q.gr, .slice ae me ce]) (Pay.of_wf (I64_of (by omega))) s7 (HA0.out.below sw) (HB0.out.below sw) rfl, sw⟩
  clear sa sb s5 s6 s3 s7 sw hxa hxb hbx n35 n36 n75 n76 q5 q6 z5 z6 HRR HW
  clear h5 h6 hB56 hB65
  have qa0 := CP0.out.ra.c9
  have qb0 := CP0.out.rb.c9
  have q50 := CP0.out.r5.c9
  have q60 := CP0.out.r6.c9
  have za0 := CP0.out.ra.lt
  have zb0 := CP0.out.rb.lt
  have z50 := CP0.out.r5.lt
  have z60 := CP0.out.r6.lt
  go_wp2_with fail
  refine (CheckRef_any (a.cat2 b) _ _ CP0.out.i5 HS5.out).mono ?_
  rintro e y1 ⟨rfl, hb1⟩
  have CP1 := hid (CP0.out.later hb1)
  clear hb1
  clear qa0 qb0 q50 q60 za0 zb0 z50 z60
  have qa1 := CP1.out.ra.c9
  have qb1 := CP1.out.rb.c9
  have q51 := CP1.out.r5.c9
  have q61 := CP1.out.r6.c9
  have za1 := CP1.out.ra.lt
  have zb1 := CP1.out.rb.lt
  have z51 := CP1.out.r5.lt
  have z61 := CP1.out.r6.lt
  rcases (show ((a.cat2 b).err != 0) = true ∨ ((a.cat2 b).err != 0) = false by cases ((a.cat2 b).err != 0) <;> simp) with hd | hd
  · go_wp2_with fail
    refine (awake_any _).mono ?_
    rintro e ya ⟨rfl, hba⟩
    have HBA : Hid (Below w.heap.size w ya) := CP1.out.bw.trans (hba.mono CP1.out.bw.size)
    clear hba
    go_wp2_with fail
    all_goals go_ret
    all_goals exact ⟨rfl, HBA.out⟩
  have hE0 : (a.cat2 b).err = 0 := by simpa using hd
  have HE0 := hid hE0
  clear hE0
  go_wp2_with fail
  refine (GroupsRef_any (a.cat2 b) _ _ CP1.out.i5 HS5.out).mono ?_
  rintro e y2 ⟨rfl, hb2⟩
  have CP2 := hid (CP1.out.later hb2)
  clear hb2
  clear qa1 qb1 q51 q61 za1 zb1 z51 z61
  have qa2 := CP2.out.ra.c9
  have qb2 := CP2.out.rb.c9
  have q52 := CP2.out.r5.c9
  have q62 := CP2.out.r6.c9
  have za2 := CP2.out.ra.lt
  have zb2 := CP2.out.rb.lt
  have z52 := CP2.out.r5.lt
  have z62 := CP2.out.r6.lt
  rcases (show decide (0 < (a.cat2 b).groups) = true ∨ decide (0 < (a.cat2 b).groups) = false by cases decide (0 < (a.cat2 b).groups) <;> simp) with hg | hg
  · go_wp2_with fail
    refine (awake_any _).mono ?_
    rintro e ya ⟨rfl, hba⟩
    have HBA : Hid (Below w.heap.size w ya) := CP2.out.bw.trans (hba.mono CP2.out.bw.size)
    clear hba
    go_wp2_with fail
    all_goals go_ret
    all_goals exact ⟨rfl, HBA.out⟩
  have hG0 : (a.cat2 b).groups = 0 := by simp at hg; omega
  have HCM := hid (comp_law a b HE0.out hG0)
  have HG0 := hid hG0
  clear hG0
  obtain ⟨A, hAe⟩ : ∃ A, a.facts = A := ⟨_, rfl⟩
  obtain ⟨B, hBe⟩ : ∃ B, b.facts = B := ⟨_, rfl⟩
  have HAE := hid hAe
  have HBE := hid hBe
  have hla := Re.facts_least a
  have hlb := Re.facts_least b
  have hwa := HWA.out
  have hwb := HWB.out
  rw [hAe] at hla hwa
  rw [hBe] at hlb hwb
  have HWFA := hid hwa
  have HWFB := hid hwb
  have dl1 : decide (A.least < 0) = false := by simp; omega
  have dl2 : decide (B.least < 0) = false := by simp; omega
  have dm1 : decide (A.most < -1) = false := by have := hwa.most.1; simp; omega
  have dm2 : decide (B.most < -1) = false := by have := hwb.most.1; simp; omega
  clear hAe hBe hla hlb hwa hwb HWA HWB
  have HLa := hid (fun (x : World) (h : a.In x [.int .i64 p.op, .int .u64 p.set.a, .int .u64 p.set.b, .int .u64 p.set.c, .int .u64 p.set.d, .int .i64 p.lo, .int .i64 p.hi, .int .i64 p.gr, .slice ad m cap]) => (by have h' := Length_any a x _ h HSA.out; rw [HAE.out] at h'; exact h' : Calls Try.prog 19 #[.agg #[.int .i64 p.op, .int .u64 p.set.a, .int .u64 p.set.b, .int .u64 p.set.c, .int .u64 p.set.d, .int .i64 p.lo, .int .i64 p.hi, .int .i64 p.gr, .slice ad m cap]] x fun e w' => e = .returned (.tuple #[.int .i64 A.least, .int .i64 A.most]) ∧ Below x.heap.size x w'))
  have HLb := hid (fun (x : World) (h : b.In x [.int .i64 q.op, .int .u64 q.set.a, .int .u64 q.set.b, .int .u64 q.set.c, .int .u64 q.set.d, .int .i64 q.lo, .int .i64 q.hi, .int .i64 q.gr, .slice ae me ce]) => (by have h' := Length_any b x _ h HSB.out; rw [HBE.out] at h'; exact h' : Calls Try.prog 19 #[.agg #[.int .i64 q.op, .int .u64 q.set.a, .int .u64 q.set.b, .int .u64 q.set.c, .int .u64 q.set.d, .int .i64 q.lo, .int .i64 q.hi, .int .i64 q.gr, .slice ae me ce]] x fun e w' => e = .returned (.tuple #[.int .i64 B.least, .int .i64 B.most]) ∧ Below x.heap.size x w'))
  have HLc := hid (fun (x : World) (h : (a.cat2 b).In x [.int .i64 3, .int .u64 0, .int .u64 0, .int .u64 0, .int .u64 0, .int .i64 0, .int .i64 0, .int .i64 0, .slice (some ⟨b3, 0, none⟩) 2 2]) => (by have h' := Length_any (a.cat2 b) x _ h HS5.out; rw [HCM.out.cfacts, HAE.out, HBE.out] at h'; exact h' : Calls Try.prog 19 #[.agg #[.int .i64 3, .int .u64 0, .int .u64 0, .int .u64 0, .int .u64 0, .int .i64 0, .int .i64 0, .int .i64 0, .slice (some ⟨b3, 0, none⟩) 2 2]] x fun e w' => e = .returned (.tuple #[.int .i64 (lsum A.least B.least), .int .i64 (lsum A.most B.most)]) ∧ Below x.heap.size x w'))
  have HC4 := hid (fun (x : World) (hx : Grow y2.drew x) => And.intro ((CP2.out.ra.drew.below hx CP2.out.ra.drew.lt).c9) (And.intro ((CP2.out.rb.drew.below hx CP2.out.rb.drew.lt).c9) (And.intro ((CP2.out.r5.drew.below hx CP2.out.r5.drew.lt).c9) ((CP2.out.r6.drew.below hx CP2.out.r6.drew.lt).c9))))
  have CPX := hid (fun (x : World) (hx : Grow y2.drew x) => (CP2.out.later ((Below.refl _ y2).drew.trans hx)))
  have HK1 := hid (fun (x : World) (hx : Grow y2.drew x) => (by have h' := Check_any (a.cat2 b) x _ (CPX.out x hx).i5 HS5.out; rw [HE0.out] at h'; exact h' : Calls Try.prog 10 #[.agg #[.int .i64 3, .int .u64 0, .int .u64 0, .int .u64 0, .int .u64 0, .int .i64 0, .int .i64 0, .int .i64 0, .slice (some ⟨b3, 0, none⟩) 2 2]] x fun e w' => e = .returned (.int .i64 0) ∧ Below x.heap.size x w'))
  have HK2 := hid (fun (x : World) (hx : Grow y2.drew x) => (by have h' := Check_any (a.alt2 b) x _ (CPX.out x hx).i6 HS6.out; rw [HCM.out.alt] at h'; exact h' : Calls Try.prog 10 #[.agg #[.int .i64 4, .int .u64 0, .int .u64 0, .int .u64 0, .int .u64 0, .int .i64 0, .int .i64 0, .int .i64 0, .slice (some ⟨b7, 0, none⟩) 2 2]] x fun e w' => e = .returned (.int .i64 0) ∧ Below x.heap.size x w'))
  have HZ5 := hid (fun (x : World) (hx : Grow y2.drew x) => (by have h' := Size_any (a.cat2 b) x _ (CPX.out x hx).i5 HS5.out; rw [show (((a.cat2 b).size : Nat) : Int) = (a.size : Int) + b.size + 1 by rw [cat2_size]; omega] at h'; exact h' : Calls Try.prog 13 #[.agg #[.int .i64 3, .int .u64 0, .int .u64 0, .int .u64 0, .int .u64 0, .int .i64 0, .int .i64 0, .int .i64 0, .slice (some ⟨b3, 0, none⟩) 2 2]] x fun e w' => e = .returned (.int .i64 ((a.size : Int) + b.size + 1)) ∧ Below x.heap.size x w'))
  have HZ6 := hid (fun (x : World) (hx : Grow y2.drew x) => (by have h' := Size_any (a.alt2 b) x _ (CPX.out x hx).i6 HS6.out; rw [show (((a.alt2 b).size : Nat) : Int) = (a.size : Int) + b.size + 1 by rw [alt2_size]; omega] at h'; exact h' : Calls Try.prog 13 #[.agg #[.int .i64 4, .int .u64 0, .int .u64 0, .int .u64 0, .int .u64 0, .int .i64 0, .int .i64 0, .int .i64 0, .slice (some ⟨b7, 0, none⟩) 2 2]] x fun e w' => e = .returned (.int .i64 ((a.size : Int) + b.size + 1)) ∧ Below x.heap.size x w'))
  have HG5 := hid (fun (x : World) (hx : Grow y2.drew x) => (by have h' := Groups_any (a.cat2 b) x _ (CPX.out x hx).i5 HS5.out; rw [HG0.out] at h'; exact h' : Calls Try.prog 15 #[.agg #[.int .i64 3, .int .u64 0, .int .u64 0, .int .u64 0, .int .u64 0, .int .i64 0, .int .i64 0, .int .i64 0, .slice (some ⟨b3, 0, none⟩) 2 2]] x fun e w' => e = .returned (.int .i64 0) ∧ Below x.heap.size x w'))
  go_wp2_with fail
  refine wp_region_inv 31 (Grow) (by kernel_rfl) (by kernel_rfl) (Grow.refl) (fun _ _ _ => Grow.trans) ?_
  simp only [fill, dstOf, Act.put, List.take_succ_cons, List.take_zero, List.getElem?_toArray, List.getElem?_cons_zero, List.getElem?_cons_succ, Option.bind_some, List.setIfInBounds_toArray, List.set_cons_zero, List.set_cons_succ]
  refine Plan.det 1 rfl (Grow.refl) ?_
  apply Exists.intro
  refine ⟨fun vs x hR hF K hK => ?_, ?_⟩
  · have hc := HC4.out x hR; clear hF
    go_simp
    exact hK _ _ (Grow.refl _) rfl
  refine Plan.det 2 rfl (Grow.refl) ?_
  apply Exists.intro
  refine ⟨fun vs x hR hF K hK => ?_, ?_⟩
  · have f0 := hF 0 _ _ rfl rfl; clear hF
    go_simp
    refine (HK1.out x hR).mono ?_
    rintro e x1 ⟨rfl, hbe⟩
    exact ⟨_, rfl, hK _ _ hbe rfl⟩
  refine Plan.det 3 rfl (Grow.refl) ?_
  apply Exists.intro
  refine ⟨fun vs x hR hF K hK => ?_, ?_⟩
  · have f1 := hF 0 _ _ rfl rfl; clear hF
    go_simp
    exact hK _ _ (Grow.refl _) rfl
  refine Plan.det 4 rfl (Grow.refl) ?_
  apply Exists.intro
  refine ⟨fun vs x hR hF K hK => ?_, ?_⟩
  · have f1 := hF 1 _ _ rfl rfl; have f2 := hF 0 _ _ rfl rfl; clear hF
    go_simp
    exact hK _ _ (Grow.refl _) rfl
  refine Plan.det 5 rfl (Grow.refl) ?_
  apply Exists.intro
  refine ⟨fun vs x hR hF K hK => ?_, ?_⟩
  · have f3 := hF 0 _ _ rfl rfl; have hc := HC4.out x hR; clear hF
    go_simp
    exact hK _ _ (Grow.refl _) rfl
  refine Plan.det 6 rfl (Grow.refl) ?_
  apply Exists.intro
  refine ⟨fun vs x hR hF K hK => ?_, ?_⟩
  · have f3 := hF 1 _ _ rfl rfl; have f4 := hF 0 _ _ rfl rfl; clear hF
    go_simp
    refine (HK2.out x hR).mono ?_
    rintro e x1 ⟨rfl, hbe⟩
    exact ⟨_, rfl, hK _ _ hbe rfl⟩
  refine Plan.det 7 rfl (Grow.refl) ?_
  apply Exists.intro
  refine ⟨fun vs x hR hF K hK => ?_, ?_⟩
  · have f3 := hF 2 _ _ rfl rfl; have f5 := hF 0 _ _ rfl rfl; clear hF
    go_simp
    exact hK _ _ (Grow.refl _) rfl
  refine Plan.det 8 rfl (Grow.refl) ?_
  apply Exists.intro
  refine ⟨fun vs x hR hF K hK => ?_, ?_⟩
  · have f3 := hF 3 _ _ rfl rfl; have f6 := hF 0 _ _ rfl rfl; clear hF
    go_simp
    exact hK _ _ (Grow.refl _) rfl
  refine Plan.det 9 rfl (Grow.refl) ?_
  apply Exists.intro
  refine ⟨fun vs x hR hF K hK => ?_, ?_⟩
  · have f5 := hF 2 _ _ rfl rfl; have f7 := hF 0 _ _ rfl rfl; clear hF
    go_simp
    exact hK _ _ (Grow.refl _) rfl
  refine Plan.det 10 rfl (Grow.refl) ?_
  apply Exists.intro
  refine ⟨fun vs x hR hF K hK => ?_, ?_⟩
  · have f8 := hF 0 _ _ rfl rfl; have hc := HC4.out x hR; clear hF
    go_simp
    exact hK _ _ (Grow.refl _) rfl
  refine Plan.det 11 rfl (Grow.refl) ?_
  apply Exists.intro
  refine ⟨fun vs x hR hF K hK => ?_, ?_⟩
  · have f8 := hF 1 _ _ rfl rfl; have f9 := hF 0 _ _ rfl rfl; clear hF
    go_simp
    refine (HZ5.out x hR).mono ?_
    rintro e x1 ⟨rfl, hbe⟩
    exact ⟨_, rfl, hK _ _ hbe rfl⟩
  refine Plan.det 12 rfl (Grow.refl) ?_
  apply Exists.intro
  refine ⟨fun vs x hR hF K hK => ?_, ?_⟩
  · have f8 := hF 2 _ _ rfl rfl; have hc := HC4.out x hR; clear hF
    go_simp
    exact hK _ _ (Grow.refl _) rfl
  refine Plan.det 13 rfl (Grow.refl) ?_
  apply Exists.intro
  refine ⟨fun vs x hR hF K hK => ?_, ?_⟩
  · have f8 := hF 3 _ _ rfl rfl; have f10 := hF 1 _ _ rfl rfl; have f11 := hF 0 _ _ rfl rfl; clear hF
    go_simp
    refine (Size_any a x _ (CPX.out x hR).ia HSA.out).mono ?_
    rintro e x1 ⟨rfl, hbe⟩
    exact ⟨_, rfl, hK _ _ hbe rfl⟩
  refine Plan.det 14 rfl (Grow.refl) ?_
  apply Exists.intro
  refine ⟨fun vs x hR hF K hK => ?_, ?_⟩
  · have f8 := hF 4 _ _ rfl rfl; have hc := HC4.out x hR; clear hF
    go_simp
    exact hK _ _ (Grow.refl _) rfl
  refine Plan.det 15 rfl (Grow.refl) ?_
  apply Exists.intro
  refine ⟨fun vs x hR hF K hK => ?_, ?_⟩
  · have f8 := hF 5 _ _ rfl rfl; have f12 := hF 1 _ _ rfl rfl; have f13 := hF 0 _ _ rfl rfl; clear hF
    go_simp
    refine (Size_any b x _ (CPX.out x hR).ib HSB.out).mono ?_
    rintro e x1 ⟨rfl, hbe⟩
    exact ⟨_, rfl, hK _ _ hbe rfl⟩
  refine Plan.det 16 rfl (Grow.refl) ?_
  apply Exists.intro
  refine ⟨fun vs x hR hF K hK => ?_, ?_⟩
  · have f8 := hF 6 _ _ rfl rfl; have f12 := hF 2 _ _ rfl rfl; have f14 := hF 0 _ _ rfl rfl; clear hF
    go_simp
    rw [IntWalk.i64_in ((a.size : Int) + b.size) (by have := HSA.out; have := HSB.out; omega)]
    exact hK _ _ (Grow.refl _) rfl
  refine Plan.det 17 rfl (Grow.refl) ?_
  apply Exists.intro
  refine ⟨fun vs x hR hF K hK => ?_, ?_⟩
  · have f8 := hF 7 _ _ rfl rfl; have f15 := hF 0 _ _ rfl rfl; clear hF
    go_simp
    rw [IntWalk.i64_in ((a.size : Int) + b.size + 1) (by have := HSA.out; have := HSB.out; omega)]
    exact hK _ _ (Grow.refl _) rfl
  refine Plan.det 18 rfl (Grow.refl) ?_
  apply Exists.intro
  refine ⟨fun vs x hR hF K hK => ?_, ?_⟩
  · have f8 := hF 8 _ _ rfl rfl; have f10 := hF 6 _ _ rfl rfl; have f16 := hF 0 _ _ rfl rfl; clear hF
    go_simp
    exact hK _ _ (Grow.refl _) rfl
  refine Plan.det 19 rfl (Grow.refl) ?_
  apply Exists.intro
  refine ⟨fun vs x hR hF K hK => ?_, ?_⟩
  · have f8 := hF 9 _ _ rfl rfl; have f17 := hF 0 _ _ rfl rfl; clear hF
    go_simp
    exact hK _ _ (Grow.refl _) rfl
  refine Plan.det 20 rfl (Grow.refl) ?_
  apply Exists.intro
  refine ⟨fun vs x hR hF K hK => ?_, ?_⟩
  · have f14 := hF 4 _ _ rfl rfl; have f18 := hF 0 _ _ rfl rfl; clear hF
    go_simp
    exact hK _ _ (Grow.refl _) rfl
  refine Plan.det 21 rfl (Grow.refl) ?_
  apply Exists.intro
  refine ⟨fun vs x hR hF K hK => ?_, ?_⟩
  · have f19 := hF 0 _ _ rfl rfl; have hc := HC4.out x hR; clear hF
    go_simp
    exact hK _ _ (Grow.refl _) rfl
  refine Plan.det 22 rfl (Grow.refl) ?_
  apply Exists.intro
  refine ⟨fun vs x hR hF K hK => ?_, ?_⟩
  · have f19 := hF 1 _ _ rfl rfl; have f20 := hF 0 _ _ rfl rfl; clear hF
    go_simp
    refine (HZ6.out x hR).mono ?_
    rintro e x1 ⟨rfl, hbe⟩
    exact ⟨_, rfl, hK _ _ hbe rfl⟩
  refine Plan.det 23 rfl (Grow.refl) ?_
  apply Exists.intro
  refine ⟨fun vs x hR hF K hK => ?_, ?_⟩
  · have f19 := hF 2 _ _ rfl rfl; have hc := HC4.out x hR; clear hF
    go_simp
    exact hK _ _ (Grow.refl _) rfl
  refine Plan.det 24 rfl (Grow.refl) ?_
  apply Exists.intro
  refine ⟨fun vs x hR hF K hK => ?_, ?_⟩
  · have f19 := hF 3 _ _ rfl rfl; have f21 := hF 1 _ _ rfl rfl; have f22 := hF 0 _ _ rfl rfl; clear hF
    go_simp
    refine (HZ5.out x hR).mono ?_
    rintro e x1 ⟨rfl, hbe⟩
    exact ⟨_, rfl, hK _ _ hbe rfl⟩
  refine Plan.det 25 rfl (Grow.refl) ?_
  apply Exists.intro
  refine ⟨fun vs x hR hF K hK => ?_, ?_⟩
  · have f19 := hF 4 _ _ rfl rfl; have f21 := hF 2 _ _ rfl rfl; have f23 := hF 0 _ _ rfl rfl; clear hF
    go_simp
    exact hK _ _ (Grow.refl _) rfl
  refine Plan.det 26 rfl (Grow.refl) ?_
  apply Exists.intro
  refine ⟨fun vs x hR hF K hK => ?_, ?_⟩
  · have f19 := hF 5 _ _ rfl rfl; have f24 := hF 0 _ _ rfl rfl; clear hF
    go_simp
    exact hK _ _ (Grow.refl _) rfl
  refine Plan.det 27 rfl (Grow.refl) ?_
  apply Exists.intro
  refine ⟨fun vs x hR hF K hK => ?_, ?_⟩
  · have f23 := hF 2 _ _ rfl rfl; have f25 := hF 0 _ _ rfl rfl; clear hF
    go_simp
    exact hK _ _ (Grow.refl _) rfl
  refine Plan.det 28 rfl (Grow.refl) ?_
  apply Exists.intro
  refine ⟨fun vs x hR hF K hK => ?_, ?_⟩
  · have f26 := hF 0 _ _ rfl rfl; have hc := HC4.out x hR; clear hF
    go_simp
    exact hK _ _ (Grow.refl _) rfl
  refine Plan.det 29 rfl (Grow.refl) ?_
  apply Exists.intro
  refine ⟨fun vs x hR hF K hK => ?_, ?_⟩
  · have f26 := hF 1 _ _ rfl rfl; have f27 := hF 0 _ _ rfl rfl; clear hF
    go_simp
    refine (HG5.out x hR).mono ?_
    rintro e x1 ⟨rfl, hbe⟩
    exact ⟨_, rfl, hK _ _ hbe rfl⟩
  refine Plan.det 30 rfl (Grow.refl) ?_
  apply Exists.intro
  refine ⟨fun vs x hR hF K hK => ?_, ?_⟩
  · have f26 := hF 2 _ _ rfl rfl; have f28 := hF 0 _ _ rfl rfl; clear hF
    go_simp
    exact hK _ _ (Grow.refl _) rfl
  refine Plan.det 31 rfl (Grow.refl) ?_
  apply Exists.intro
  refine ⟨fun vs x hR hF K hK => ?_, ?_⟩
  · have f26 := hF 3 _ _ rfl rfl; have f29 := hF 0 _ _ rfl rfl; clear hF
    go_simp
    exact hK _ _ (Grow.refl _) rfl
  refine Plan.nil (fun vs x hR hF => ?_)
  have f0 := hF 30 _ _ rfl; have f1 := hF 29 _ _ rfl; have f2 := hF 28 _ _ rfl; have f3 := hF 27 _ _ rfl; have f4 := hF 26 _ _ rfl; have f5 := hF 25 _ _ rfl; have f6 := hF 24 _ _ rfl; have f7 := hF 23 _ _ rfl; have f8 := hF 22 _ _ rfl; have f9 := hF 21 _ _ rfl; have f10 := hF 20 _ _ rfl; have f11 := hF 19 _ _ rfl; have f12 := hF 18 _ _ rfl; have f13 := hF 17 _ _ rfl; have f14 := hF 16 _ _ rfl; have f15 := hF 15 _ _ rfl; have f16 := hF 14 _ _ rfl; have f17 := hF 13 _ _ rfl; have f18 := hF 12 _ _ rfl; have f19 := hF 11 _ _ rfl; have f20 := hF 10 _ _ rfl; have f21 := hF 9 _ _ rfl; have f22 := hF 8 _ _ rfl; have f23 := hF 7 _ _ rfl; have f24 := hF 6 _ _ rfl; have f25 := hF 5 _ _ rfl; have f26 := hF 4 _ _ rfl; have f27 := hF 3 _ _ rfl; have f28 := hF 2 _ _ rfl; have f29 := hF 1 _ _ rfl; have f30 := hF 0 _ _ rfl
  clear hF
  simp only [f0, f1, f2, f3, f4, f5, f6, f7, f8, f9, f10, f11, f12, f13, f14, f15, f16, f17, f18, f19, f20, f21, f22, f23, f24, f25, f26, f27, f28, f29, f30]
  clear f0 f1 f2 f3 f4 f5 f6 f7 f8 f9 f10 f11 f12 f13 f14 f15 f16 f17 f18 f19 f20 f21 f22 f23 f24 f25 f26 f27 f28 f29 f30
  simp only [List.drop_succ_cons, List.drop_zero]
  have CP3 := hid (CPX.out x hR)
  clear hR HC4 CPX HK1 HK2 HZ5 HZ6 HG5 CP2
  clear qa2 qb2 q52 q62 za2 zb2 z52 z62
  have qa3 := CP3.out.ra.c9
  have qb3 := CP3.out.rb.c9
  have q53 := CP3.out.r5.c9
  have q63 := CP3.out.r6.c9
  have za3 := CP3.out.ra.lt
  have zb3 := CP3.out.rb.lt
  have z53 := CP3.out.r5.lt
  have z63 := CP3.out.r6.lt
  go_wp2_with fail
  refine (HLa.out _ CP3.out.ia).mono ?_
  rintro e y4 ⟨rfl, hb4⟩
  have CP4 := hid (CP3.out.later hb4)
  clear hb4 CP3
  clear qa3 qb3 q53 q63 za3 zb3 z53 z63
  have qa4 := CP4.out.ra.c9
  have qb4 := CP4.out.rb.c9
  have q54 := CP4.out.r5.c9
  have q64 := CP4.out.r6.c9
  have za4 := CP4.out.ra.lt
  have zb4 := CP4.out.rb.lt
  have z54 := CP4.out.r5.lt
  have z64 := CP4.out.r6.lt
  go_wp2_with fail
  refine (HLb.out _ CP4.out.ib).mono ?_
  rintro e y5 ⟨rfl, hb5⟩
  have CP5 := hid (CP4.out.later hb5)
  clear hb5 CP4
  clear qa4 qb4 q54 q64 za4 zb4 z54 z64
  have qa5 := CP5.out.ra.c9
  have qb5 := CP5.out.rb.c9
  have q55 := CP5.out.r5.c9
  have q65 := CP5.out.r6.c9
  have za5 := CP5.out.ra.lt
  have zb5 := CP5.out.rb.lt
  have z55 := CP5.out.r5.lt
  have z65 := CP5.out.r6.lt
  go_wp2_with fail
  refine (HLc.out _ CP5.out.i5).mono ?_
  rintro e y6 ⟨rfl, hb6⟩
  have CP6 := hid (CP5.out.later hb6)
  clear hb6 CP5 HLa HLb HLc
  clear qa5 qb5 q55 q65 za5 zb5 z55 z65
  have qa6 := CP6.out.ra.c9
  have qb6 := CP6.out.rb.c9
  have q56 := CP6.out.r5.c9
  have q66 := CP6.out.r6.c9
  have za6 := CP6.out.ra.lt
  have zb6 := CP6.out.rb.lt
  have z56 := CP6.out.r5.lt
  have z66 := CP6.out.r6.lt
  go_wp2_with fail
  refine (sumLaw_any A.least B.least _ HWFA.out.least HWFB.out.least).mono ?_
  rintro e y7 ⟨rfl, rfl⟩
  go_wp2_with fail
  refine (sumLaw_any A.most B.most _ HWFA.out.most HWFB.out.most).mono ?_
  rintro e y8 ⟨rfl, rfl⟩
  rcases (show A.null = true ∨ A.null = false by cases A.null <;> simp) with hnA | hnA
  · have HFa := hid (fun (x : World) (h : a.In x [.int .i64 p.op, .int .u64 p.set.a, .int .u64 p.set.b, .int .u64 p.set.c, .int .u64 p.set.d, .int .i64 p.lo, .int .i64 p.hi, .int .i64 p.gr, .slice ad m cap]) => (by have h' := First_any a x _ h HSA.out; rw [HAE.out] at h'; simpa [Cs.cells, hnA] using h' : Calls Try.prog 21 #[.agg #[.int .i64 p.op, .int .u64 p.set.a, .int .u64 p.set.b, .int .u64 p.set.c, .int .u64 p.set.d, .int .i64 p.lo, .int .i64 p.hi, .int .i64 p.gr, .slice ad m cap]] x fun e w' => e = .returned (.tuple #[.agg #[.int .u64 (A.first).a, .int .u64 (A.first).b, .int .u64 (A.first).c, .int .u64 (A.first).d], .bool true]) ∧ Below x.heap.size x w'))
    have HFb := hid (fun (x : World) (h : b.In x [.int .i64 q.op, .int .u64 q.set.a, .int .u64 q.set.b, .int .u64 q.set.c, .int .u64 q.set.d, .int .i64 q.lo, .int .i64 q.hi, .int .i64 q.gr, .slice ae me ce]) => (by have h' := First_any b x _ h HSB.out; rw [HBE.out] at h'; exact h' : Calls Try.prog 21 #[.agg #[.int .i64 q.op, .int .u64 q.set.a, .int .u64 q.set.b, .int .u64 q.set.c, .int .u64 q.set.d, .int .i64 q.lo, .int .i64 q.hi, .int .i64 q.gr, .slice ae me ce]] x fun e w' => e = .returned (.tuple #[.agg #[.int .u64 (B.first).a, .int .u64 (B.first).b, .int .u64 (B.first).c, .int .u64 (B.first).d], .bool B.null]) ∧ Below x.heap.size x w'))
    have HFd := hid (fun (x : World) (h : (a.alt2 b).In x [.int .i64 4, .int .u64 0, .int .u64 0, .int .u64 0, .int .u64 0, .int .i64 0, .int .i64 0, .int .i64 0, .slice (some ⟨b7, 0, none⟩) 2 2]) => (by have h' := First_any (a.alt2 b) x _ h HS6.out; rw [HCM.out.afacts, HAE.out, HBE.out] at h'; simpa [Facts.alt, Cs.cells, hnA] using h' : Calls Try.prog 21 #[.agg #[.int .i64 4, .int .u64 0, .int .u64 0, .int .u64 0, .int .u64 0, .int .i64 0, .int .i64 0, .int .i64 0, .slice (some ⟨b7, 0, none⟩) 2 2]] x fun e w' => e = .returned (.tuple #[.agg #[.int .u64 (A.first.union B.first).a, .int .u64 (A.first.union B.first).b, .int .u64 (A.first.union B.first).c, .int .u64 (A.first.union B.first).d], .bool true]) ∧ Below x.heap.size x w'))
    have HFc := hid (fun (x : World) (h : (a.cat2 b).In x [.int .i64 3, .int .u64 0, .int .u64 0, .int .u64 0, .int .u64 0, .int .i64 0, .int .i64 0, .int .i64 0, .slice (some ⟨b3, 0, none⟩) 2 2]) => (by have h' := First_any (a.cat2 b) x _ h HS5.out; rw [HCM.out.cfacts, HAE.out, HBE.out] at h'; simpa [Facts.cat, Cs.cells, hnA] using h' : Calls Try.prog 21 #[.agg #[.int .i64 3, .int .u64 0, .int .u64 0, .int .u64 0, .int .u64 0, .int .i64 0, .int .i64 0, .int .i64 0, .slice (some ⟨b3, 0, none⟩) 2 2]] x fun e w' => e = .returned (.tuple #[.agg #[.int .u64 (A.first.union B.first).a, .int .u64 (A.first.union B.first).b, .int .u64 (A.first.union B.first).c, .int .u64 (A.first.union B.first).d], .bool B.null]) ∧ Below x.heap.size x w'))
    have HNc := hid (fun (x : World) (h : (a.cat2 b).In x [.int .i64 3, .int .u64 0, .int .u64 0, .int .u64 0, .int .u64 0, .int .i64 0, .int .i64 0, .int .i64 0, .slice (some ⟨b3, 0, none⟩) 2 2]) => (by have h' := Nullable_any (a.cat2 b) x _ h HS5.out; rw [HCM.out.cfacts, HAE.out, HBE.out] at h'; simpa [Facts.cat, hnA] using h' : Calls Try.prog 23 #[.agg #[.int .i64 3, .int .u64 0, .int .u64 0, .int .u64 0, .int .u64 0, .int .i64 0, .int .i64 0, .int .i64 0, .slice (some ⟨b3, 0, none⟩) 2 2]] x fun e w' => e = .returned (.bool B.null) ∧ Below x.heap.size x w'))
    have HNd := hid (fun (x : World) (h : (a.alt2 b).In x [.int .i64 4, .int .u64 0, .int .u64 0, .int .u64 0, .int .u64 0, .int .i64 0, .int .i64 0, .int .i64 0, .slice (some ⟨b7, 0, none⟩) 2 2]) => (by have h' := Nullable_any (a.alt2 b) x _ h HS6.out; rw [HCM.out.afacts, HAE.out, HBE.out] at h'; simpa [Facts.alt, hnA] using h' : Calls Try.prog 23 #[.agg #[.int .i64 4, .int .u64 0, .int .u64 0, .int .u64 0, .int .u64 0, .int .i64 0, .int .i64 0, .int .i64 0, .slice (some ⟨b7, 0, none⟩) 2 2]] x fun e w' => e = .returned (.bool true) ∧ Below x.heap.size x w'))
    clear hnA
    go_wp2_with fail
    refine (HFa.out _ CP6.out.ia).mono ?_
    rintro e v0 ⟨rfl, hbv⟩
    have CPv0 := hid (CP6.out.later hbv)
    clear hbv
    clear qa6 qb6 q56 q66 za6 zb6 z56 z66
    have qa7 := CPv0.out.ra.c9
    have qb7 := CPv0.out.rb.c9
    have q57 := CPv0.out.r5.c9
    have q67 := CPv0.out.r6.c9
    have za7 := CPv0.out.ra.lt
    have zb7 := CPv0.out.rb.lt
    have z57 := CPv0.out.r5.lt
    have z67 := CPv0.out.r6.lt
    go_wp2_with fail
    have hal := (Below.refl v0.heap.size v0).alloc (Nat.le_refl _) (.cells #[.int .u64 (A.first).a, .int .u64 (A.first).b, .int .u64 (A.first).c, .int .u64 (A.first).d] 25)
    have CPw0 := hid (CPv0.out.later hal)
    have R00 := hid (Row.new (w := v0) (B := v0.heap.size) (cs := [.int .u64 (A.first).a, .int .u64 (A.first).b, .int .u64 (A.first).c, .int .u64 (A.first).d]) (T := 25) rfl)
    clear hal
    refine (HFb.out _ CPw0.out.ib).mono ?_
    rintro e v1 ⟨rfl, hbv⟩
    have CPv1 := hid (CPw0.out.later hbv)
    have R01 := hid (R00.out.below hbv R00.out.lt)
    clear hbv
    clear qa7 qb7 q57 q67 za7 zb7 z57 z67
    have qa8 := CPv1.out.ra.c9
    have qb8 := CPv1.out.rb.c9
    have q58 := CPv1.out.r5.c9
    have q68 := CPv1.out.r6.c9
    have za8 := CPv1.out.ra.lt
    have zb8 := CPv1.out.rb.lt
    have z58 := CPv1.out.r5.lt
    have z68 := CPv1.out.r6.lt
    go_wp2_with fail
    have hal := (Below.refl v1.heap.size v1).alloc (Nat.le_refl _) (.cells #[.int .u64 (B.first).a, .int .u64 (B.first).b, .int .u64 (B.first).c, .int .u64 (B.first).d] 25)
    have CPw1 := hid (CPv1.out.later hal)
    have R01 := hid (R01.out.below hal R01.out.lt)
    have R11 := hid (Row.new (w := v1) (B := v1.heap.size) (cs := [.int .u64 (B.first).a, .int .u64 (B.first).b, .int .u64 (B.first).c, .int .u64 (B.first).d]) (T := 25) rfl)
    clear hal
    refine (HFd.out _ CPw1.out.i6).mono ?_
    rintro e v2 ⟨rfl, hbv⟩
    have CPv2 := hid (CPw1.out.later hbv)
    have R02 := hid (R01.out.below hbv R01.out.lt)
    have R12 := hid (R11.out.below hbv R11.out.lt)
    clear hbv
    clear qa8 qb8 q58 q68 za8 zb8 z58 z68
    have qa9 := CPv2.out.ra.c9
    have qb9 := CPv2.out.rb.c9
    have q59 := CPv2.out.r5.c9
    have q69 := CPv2.out.r6.c9
    have za9 := CPv2.out.ra.lt
    have zb9 := CPv2.out.rb.lt
    have z59 := CPv2.out.r5.lt
    have z69 := CPv2.out.r6.lt
    go_wp2_with fail
    have hal := (Below.refl v2.heap.size v2).alloc (Nat.le_refl _) (.cells #[.int .u64 (A.first.union B.first).a, .int .u64 (A.first.union B.first).b, .int .u64 (A.first.union B.first).c, .int .u64 (A.first.union B.first).d] 25)
    have CPw2 := hid (CPv2.out.later hal)
    have R02 := hid (R02.out.below hal R02.out.lt)
    have R12 := hid (R12.out.below hal R12.out.lt)
    have R22 := hid (Row.new (w := v2) (B := v2.heap.size) (cs := [.int .u64 (A.first.union B.first).a, .int .u64 (A.first.union B.first).b, .int .u64 (A.first.union B.first).c, .int .u64 (A.first.union B.first).d]) (T := 25) rfl)
    clear hal
    refine (HFc.out _ CPw2.out.i5).mono ?_
    rintro e v3 ⟨rfl, hbv⟩
    have CPv3 := hid (CPw2.out.later hbv)
    have R03 := hid (R02.out.below hbv R02.out.lt)
    have R13 := hid (R12.out.below hbv R12.out.lt)
    have R23 := hid (R22.out.below hbv R22.out.lt)
    clear hbv
    clear qa9 qb9 q59 q69 za9 zb9 z59 z69
    have qa10 := CPv3.out.ra.c9
    have qb10 := CPv3.out.rb.c9
    have q510 := CPv3.out.r5.c9
    have q610 := CPv3.out.r6.c9
    have za10 := CPv3.out.ra.lt
    have zb10 := CPv3.out.rb.lt
    have z510 := CPv3.out.r5.lt
    have z610 := CPv3.out.r6.lt
    go_wp2_with fail
    have hal := (Below.refl v3.heap.size v3).alloc (Nat.le_refl _) (.cells #[.int .u64 (A.first.union B.first).a, .int .u64 (A.first.union B.first).b, .int .u64 (A.first.union B.first).c, .int .u64 (A.first.union B.first).d] 25)
    have CPw3 := hid (CPv3.out.later hal)
    have R03 := hid (R03.out.below hal R03.out.lt)
    have R13 := hid (R13.out.below hal R13.out.lt)
    have R23 := hid (R23.out.below hal R23.out.lt)
    have R33 := hid (Row.new (w := v3) (B := v3.heap.size) (cs := [.int .u64 (A.first.union B.first).a, .int .u64 (A.first.union B.first).b, .int .u64 (A.first.union B.first).c, .int .u64 (A.first.union B.first).d]) (T := 25) rfl)
    clear hal
    have heq := fun (s : Cs) (x : World) => eq_self s x
    generalize v3.alloc (.cells #[.int .u64 (A.first.union B.first).a, .int .u64 (A.first.union B.first).b, .int .u64 (A.first.union B.first).c, .int .u64 (A.first.union B.first).d] 25) = yf at *
    have HCf := hid (fun (x : World) (hx : Grow yf.drew x) => And.intro ((R03.out.drew.below hx R03.out.drew.lt).c4) (And.intro ((R13.out.drew.below hx R13.out.drew.lt).c4) (And.intro ((R23.out.drew.below hx R23.out.drew.lt).c4) ((R33.out.drew.below hx R33.out.drew.lt).c4))))
    clear qa10 qb10 q510 q610 za10 zb10 z510 z610
    refine wp_region_inv 38 (Grow) (by kernel_rfl) (by kernel_rfl) (Grow.refl) (fun _ _ _ => Grow.trans) ?_
    simp only [fill, dstOf, Act.put, List.take_succ_cons, List.take_zero, List.getElem?_toArray, List.getElem?_cons_zero, List.getElem?_cons_succ, Option.bind_some, List.setIfInBounds_toArray, List.set_cons_zero, List.set_cons_succ]
    refine Plan.det 1 rfl (Grow.refl) ?_
    apply Exists.intro
    refine ⟨fun vs x hR hF K hK => ?_, ?_⟩
    · have hc := HCf.out x hR; clear hF
      go_simp
      exact hK _ _ (Grow.refl _) rfl
    refine Plan.det 2 rfl (Grow.refl) ?_
    apply Exists.intro
    refine ⟨fun vs x hR hF K hK => ?_, ?_⟩
    · have hc := HCf.out x hR; clear hF
      go_simp
      exact hK _ _ (Grow.refl _) rfl
    refine Plan.det 3 rfl (Grow.refl) ?_
    apply Exists.intro
    refine ⟨fun vs x hR hF K hK => ?_, ?_⟩
    · have hc := HCf.out x hR; clear hF
      go_simp
      exact hK _ _ (Grow.refl _) rfl
    refine Plan.det 4 rfl (Grow.refl) ?_
    apply Exists.intro
    refine ⟨fun vs x hR hF K hK => ?_, ?_⟩
    · have f1 := hF 1 _ _ rfl rfl; have f2 := hF 0 _ _ rfl rfl; clear hF
      go_simp
      refine (UnionRef_any A.first B.first x HWFA.out.first HWFB.out.first).mono ?_
      rintro e x1 ⟨rfl, hbe⟩
      exact ⟨_, rfl, hK _ _ hbe rfl⟩
    refine Plan.det 5 rfl (Grow.refl) ?_
    apply Exists.intro
    refine ⟨fun vs x hR hF K hK => ?_, ?_⟩
    · have f0 := hF 3 _ _ rfl rfl; have f3 := hF 0 _ _ rfl rfl; clear hF
      go_simp
      exact hK _ _ (Grow.refl _) rfl
    refine Plan.det 6 rfl (Grow.refl) ?_
    apply Exists.intro
    refine ⟨fun vs x hR hF K hK => ?_, ?_⟩
    · have f3 := hF 1 _ _ rfl rfl; have f4 := hF 0 _ _ rfl rfl; clear hF
      go_simp
      exact hK _ _ (Grow.refl _) rfl
    refine Plan.det 7 rfl (Grow.refl) ?_
    apply Exists.intro
    refine ⟨fun vs x hR hF K hK => ?_, ?_⟩
    · have f5 := hF 0 _ _ rfl rfl; clear hF
      go_simp
      exact hK _ _ (Grow.refl _) rfl
    refine Plan.det 8 rfl (Grow.refl) ?_
    apply Exists.intro
    refine ⟨fun vs x hR hF K hK => ?_, ?_⟩
    · have f5 := hF 1 _ _ rfl rfl; clear hF
      go_simp
      exact hK _ _ (Grow.refl _) rfl
    refine Plan.det 9 rfl (Grow.refl) ?_
    apply Exists.intro
    refine ⟨fun vs x hR hF K hK => ?_, ?_⟩
    · have f5 := hF 2 _ _ rfl rfl; have f7 := hF 0 _ _ rfl rfl; clear hF
      go_simp
      exact hK _ _ (Grow.refl _) rfl
    refine Plan.det 10 rfl (Grow.refl) ?_
    apply Exists.intro
    refine ⟨fun vs x hR hF K hK => ?_, ?_⟩
    · have f8 := hF 0 _ _ rfl rfl; clear hF
      go_simp
      exact hK _ _ (Grow.refl _) rfl
    refine Plan.det 11 rfl (Grow.refl) ?_
    apply Exists.intro
    refine ⟨fun vs x hR hF K hK => ?_, ?_⟩
    · have f5 := hF 4 _ _ rfl rfl; have f8 := hF 1 _ _ rfl rfl; have f9 := hF 0 _ _ rfl rfl; clear hF
      go_simp
      exact hK _ _ (Grow.refl _) rfl
    refine Plan.det 12 rfl (Grow.refl) ?_
    apply Exists.intro
    refine ⟨fun vs x hR hF K hK => ?_, ?_⟩
    · have f5 := hF 5 _ _ rfl rfl; have f6 := hF 4 _ _ rfl rfl; have f10 := hF 0 _ _ rfl rfl; clear hF
      go_simp
      exact hK _ _ (Grow.refl _) rfl
    refine Plan.det 13 rfl (Grow.refl) ?_
    apply Exists.intro
    refine ⟨fun vs x hR hF K hK => ?_, ?_⟩
    · have f5 := hF 6 _ _ rfl rfl; have f11 := hF 0 _ _ rfl rfl; clear hF
      go_simp
      exact hK _ _ (Grow.refl _) rfl
    refine Plan.det 14 rfl (Grow.refl) ?_
    apply Exists.intro
    refine ⟨fun vs x hR hF K hK => ?_, ?_⟩
    · have f8 := hF 4 _ _ rfl rfl; have f12 := hF 0 _ _ rfl rfl; clear hF
      go_simp
      exact hK _ _ (Grow.refl _) rfl
    refine Plan.det 15 rfl (Grow.refl) ?_
    apply Exists.intro
    refine ⟨fun vs x hR hF K hK => ?_, ?_⟩
    · have f13 := hF 0 _ _ rfl rfl; clear hF
      go_simp
      exact hK _ _ (Grow.refl _) rfl
    refine Plan.det 16 rfl (Grow.refl) ?_
    apply Exists.intro
    refine ⟨fun vs x hR hF K hK => ?_, ?_⟩
    · have f13 := hF 1 _ _ rfl rfl; clear hF
      go_simp
      exact hK _ _ (Grow.refl _) rfl
    refine Plan.det 17 rfl (Grow.refl) ?_
    apply Exists.intro
    refine ⟨fun vs x hR hF K hK => ?_, ?_⟩
    · have f13 := hF 2 _ _ rfl rfl; have f15 := hF 0 _ _ rfl rfl; clear hF
      go_simp
      exact hK _ _ (Grow.refl _) rfl
    refine Plan.det 18 rfl (Grow.refl) ?_
    apply Exists.intro
    refine ⟨fun vs x hR hF K hK => ?_, ?_⟩
    · have f16 := hF 0 _ _ rfl rfl; clear hF
      go_simp
      exact hK _ _ (Grow.refl _) rfl
    refine Plan.det 19 rfl (Grow.refl) ?_
    apply Exists.intro
    refine ⟨fun vs x hR hF K hK => ?_, ?_⟩
    · have f13 := hF 4 _ _ rfl rfl; have f16 := hF 1 _ _ rfl rfl; have f17 := hF 0 _ _ rfl rfl; clear hF
      go_simp
      exact hK _ _ (Grow.refl _) rfl
    refine Plan.det 20 rfl (Grow.refl) ?_
    apply Exists.intro
    refine ⟨fun vs x hR hF K hK => ?_, ?_⟩
    · have f13 := hF 5 _ _ rfl rfl; have f14 := hF 4 _ _ rfl rfl; have f18 := hF 0 _ _ rfl rfl; clear hF
      go_simp
      exact hK _ _ (Grow.refl _) rfl
    refine Plan.det 21 rfl (Grow.refl) ?_
    apply Exists.intro
    refine ⟨fun vs x hR hF K hK => ?_, ?_⟩
    · have f13 := hF 6 _ _ rfl rfl; have f19 := hF 0 _ _ rfl rfl; clear hF
      go_simp
      exact hK _ _ (Grow.refl _) rfl
    refine Plan.det 22 rfl (Grow.refl) ?_
    apply Exists.intro
    refine ⟨fun vs x hR hF K hK => ?_, ?_⟩
    · have f16 := hF 4 _ _ rfl rfl; have f20 := hF 0 _ _ rfl rfl; clear hF
      go_simp
      exact hK _ _ (Grow.refl _) rfl
    refine Plan.det 23 rfl (Grow.refl) ?_
    apply Exists.intro
    refine ⟨fun vs x hR hF K hK => ?_, ?_⟩
    · have f21 := hF 0 _ _ rfl rfl; clear hF
      go_simp
      exact hK _ _ (Grow.refl _) rfl
    refine Plan.det 24 rfl (Grow.refl) ?_
    apply Exists.intro
    refine ⟨fun vs x hR hF K hK => ?_, ?_⟩
    · have f21 := hF 1 _ _ rfl rfl; have f22 := hF 0 _ _ rfl rfl; clear hF
      go_simp
      exact hK _ _ (Grow.refl _) rfl
    refine Plan.det 25 rfl (Grow.refl) ?_
    apply Exists.intro
    refine ⟨fun vs x hR hF K hK => ?_, ?_⟩
    · have f21 := hF 2 _ _ rfl rfl; have f23 := hF 0 _ _ rfl rfl; clear hF
      go_simp
      exact hK _ _ (Grow.refl _) rfl
    refine Plan.det 26 rfl (Grow.refl) ?_
    apply Exists.intro
    refine ⟨fun vs x hR hF K hK => ?_, ?_⟩
    · have f24 := hF 0 _ _ rfl rfl; have hc := HCf.out x hR; clear hF
      go_simp
      exact hK _ _ (Grow.refl _) rfl
    refine Plan.det 27 rfl (Grow.refl) ?_
    apply Exists.intro
    refine ⟨fun vs x hR hF K hK => ?_, ?_⟩
    · have f24 := hF 1 _ _ rfl rfl; have hc := HCf.out x hR; clear hF
      go_simp
      exact hK _ _ (Grow.refl _) rfl
    refine Plan.det 28 rfl (Grow.refl) ?_
    apply Exists.intro
    refine ⟨fun vs x hR hF K hK => ?_, ?_⟩
    · have f24 := hF 2 _ _ rfl rfl; have f25 := hF 1 _ _ rfl rfl; have f26 := hF 0 _ _ rfl rfl; clear hF
      go_simp
      exact hK _ _ (Grow.refl _) rfl
    refine Plan.det 29 rfl (Grow.refl) ?_
    apply Exists.intro
    refine ⟨fun vs x hR hF K hK => ?_, ?_⟩
    · have f21 := hF 6 _ _ rfl rfl; have f24 := hF 3 _ _ rfl rfl; have f27 := hF 0 _ _ rfl rfl; clear hF
      go_simp
      exact hK _ _ (Grow.refl _) rfl
    refine Plan.det 30 rfl (Grow.refl) ?_
    apply Exists.intro
    refine ⟨fun vs x hR hF K hK => ?_, ?_⟩
    · have f21 := hF 7 _ _ rfl rfl; have f28 := hF 0 _ _ rfl rfl; clear hF
      go_simp
      exact hK _ _ (Grow.refl _) rfl
    refine Plan.det 31 rfl (Grow.refl) ?_
    apply Exists.intro
    refine ⟨fun vs x hR hF K hK => ?_, ?_⟩
    · have f24 := hF 5 _ _ rfl rfl; have f29 := hF 0 _ _ rfl rfl; clear hF
      go_simp
      exact hK _ _ (Grow.refl _) rfl
    refine Plan.det 32 rfl (Grow.refl) ?_
    apply Exists.intro
    refine ⟨fun vs x hR hF K hK => ?_, ?_⟩
    · have f30 := hF 0 _ _ rfl rfl; clear hF
      go_simp
      exact hK _ _ (Grow.refl _) rfl
    refine Plan.det 33 rfl (Grow.refl) ?_
    apply Exists.intro
    refine ⟨fun vs x hR hF K hK => ?_, ?_⟩
    · have f30 := hF 1 _ _ rfl rfl; have f31 := hF 0 _ _ rfl rfl; clear hF
      go_simp
      exact hK _ _ (Grow.refl _) rfl
    refine Plan.det 34 rfl (Grow.refl) ?_
    apply Exists.intro
    refine ⟨fun vs x hR hF K hK => ?_, ?_⟩
    · have f32 := hF 0 _ _ rfl rfl; have hc := HCf.out x hR; clear hF
      go_simp
      exact hK _ _ (Grow.refl _) rfl
    refine Plan.det 35 rfl (Grow.refl) ?_
    apply Exists.intro
    refine ⟨fun vs x hR hF K hK => ?_, ?_⟩
    · have f32 := hF 1 _ _ rfl rfl; have hc := HCf.out x hR; clear hF
      go_simp
      exact hK _ _ (Grow.refl _) rfl
    refine Plan.det 36 rfl (Grow.refl) ?_
    apply Exists.intro
    refine ⟨fun vs x hR hF K hK => ?_, ?_⟩
    · have f32 := hF 2 _ _ rfl rfl; have f33 := hF 1 _ _ rfl rfl; have f34 := hF 0 _ _ rfl rfl; clear hF
      go_simp
      exact hK _ _ (Grow.refl _) rfl
    refine Plan.det 37 rfl (Grow.refl) ?_
    apply Exists.intro
    refine ⟨fun vs x hR hF K hK => ?_, ?_⟩
    · have f30 := hF 5 _ _ rfl rfl; have f32 := hF 3 _ _ rfl rfl; have f35 := hF 0 _ _ rfl rfl; clear hF
      go_simp
      exact hK _ _ (Grow.refl _) rfl
    refine Plan.det 38 rfl (Grow.refl) ?_
    apply Exists.intro
    refine ⟨fun vs x hR hF K hK => ?_, ?_⟩
    · have f30 := hF 6 _ _ rfl rfl; have f36 := hF 0 _ _ rfl rfl; clear hF
      go_simp
      exact hK _ _ (Grow.refl _) rfl
    refine Plan.nil (fun vs x hR hF => ?_)
    have f0 := hF 37 _ _ rfl; have f1 := hF 36 _ _ rfl; have f2 := hF 35 _ _ rfl; have f3 := hF 34 _ _ rfl; have f4 := hF 33 _ _ rfl; have f5 := hF 32 _ _ rfl; have f6 := hF 31 _ _ rfl; have f7 := hF 30 _ _ rfl; have f8 := hF 29 _ _ rfl; have f9 := hF 28 _ _ rfl; have f10 := hF 27 _ _ rfl; have f11 := hF 26 _ _ rfl; have f12 := hF 25 _ _ rfl; have f13 := hF 24 _ _ rfl; have f14 := hF 23 _ _ rfl; have f15 := hF 22 _ _ rfl; have f16 := hF 21 _ _ rfl; have f17 := hF 20 _ _ rfl; have f18 := hF 19 _ _ rfl; have f19 := hF 18 _ _ rfl; have f20 := hF 17 _ _ rfl; have f21 := hF 16 _ _ rfl; have f22 := hF 15 _ _ rfl; have f23 := hF 14 _ _ rfl; have f24 := hF 13 _ _ rfl; have f25 := hF 12 _ _ rfl; have f26 := hF 11 _ _ rfl; have f27 := hF 10 _ _ rfl; have f28 := hF 9 _ _ rfl; have f29 := hF 8 _ _ rfl; have f30 := hF 7 _ _ rfl; have f31 := hF 6 _ _ rfl; have f32 := hF 5 _ _ rfl; have f33 := hF 4 _ _ rfl; have f34 := hF 3 _ _ rfl; have f35 := hF 2 _ _ rfl; have f36 := hF 1 _ _ rfl; have f37 := hF 0 _ _ rfl
    clear hF
    simp only [f0, f1, f2, f3, f4, f5, f6, f7, f8, f9, f10, f11, f12, f13, f14, f15, f16, f17, f18, f19, f20, f21, f22, f23, f24, f25, f26, f27, f28, f29, f30, f31, f32, f33, f34, f35, f36, f37]
    clear f0 f1 f2 f3 f4 f5 f6 f7 f8 f9 f10 f11 f12 f13 f14 f15 f16 f17 f18 f19 f20 f21 f22 f23 f24 f25 f26 f27 f28 f29 f30 f31 f32 f33 f34 f35 f36 f37
    simp only [List.drop_succ_cons, List.drop_zero]
    have CPz := hid (CPw3.out.later ((Below.refl _ yf).drew.trans hR))
    clear hR HCf
    have qa20 := CPz.out.ra.c9
    have qb20 := CPz.out.rb.c9
    have q520 := CPz.out.r5.c9
    have q620 := CPz.out.r6.c9
    have za20 := CPz.out.ra.lt
    have zb20 := CPz.out.rb.lt
    have z520 := CPz.out.r5.lt
    have z620 := CPz.out.r6.lt
    go_wp2_with fail
    refine (HNc.out _ CPz.out.i5).mono ?_
    rintro e u1 ⟨rfl, hu1⟩
    have CU1 := hid (CPz.out.later hu1)
    clear hu1
    clear qa20 qb20 q520 q620 za20 zb20 z520 z620
    have qa21 := CU1.out.ra.c9
    have qb21 := CU1.out.rb.c9
    have q521 := CU1.out.r5.c9
    have q621 := CU1.out.r6.c9
    have za21 := CU1.out.ra.lt
    have zb21 := CU1.out.rb.lt
    have z521 := CU1.out.r5.lt
    have z621 := CU1.out.r6.lt
    go_wp2_with fail
    refine (HNd.out _ CU1.out.i6).mono ?_
    rintro e u2 ⟨rfl, hu2⟩
    have CU2 := hid (CU1.out.later hu2)
    clear hu2
    clear qa21 qb21 q521 q621 za21 zb21 z521 z621
    have qa22 := CU2.out.ra.c9
    have qb22 := CU2.out.rb.c9
    have q522 := CU2.out.r5.c9
    have q622 := CU2.out.r6.c9
    have za22 := CU2.out.ra.lt
    have zb22 := CU2.out.rb.lt
    have z522 := CU2.out.r5.lt
    have z622 := CU2.out.r6.lt
    go_wp2_with fail
    refine (awake_any _).mono ?_
    rintro e ya ⟨rfl, hba⟩
    have HBA : Hid (Below w.heap.size w ya) := CU2.out.bw.trans (hba.mono CU2.out.bw.size)
    clear hba
    go_wp2_with fail
    all_goals go_ret
    all_goals exact ⟨rfl, HBA.out⟩
  · have HFa := hid (fun (x : World) (h : a.In x [.int .i64 p.op, .int .u64 p.set.a, .int .u64 p.set.b, .int .u64 p.set.c, .int .u64 p.set.d, .int .i64 p.lo, .int .i64 p.hi, .int .i64 p.gr, .slice ad m cap]) => (by have h' := First_any a x _ h HSA.out; rw [HAE.out] at h'; simpa [Cs.cells, hnA] using h' : Calls Try.prog 21 #[.agg #[.int .i64 p.op, .int .u64 p.set.a, .int .u64 p.set.b, .int .u64 p.set.c, .int .u64 p.set.d, .int .i64 p.lo, .int .i64 p.hi, .int .i64 p.gr, .slice ad m cap]] x fun e w' => e = .returned (.tuple #[.agg #[.int .u64 (A.first).a, .int .u64 (A.first).b, .int .u64 (A.first).c, .int .u64 (A.first).d], .bool false]) ∧ Below x.heap.size x w'))
    have HFb := hid (fun (x : World) (h : b.In x [.int .i64 q.op, .int .u64 q.set.a, .int .u64 q.set.b, .int .u64 q.set.c, .int .u64 q.set.d, .int .i64 q.lo, .int .i64 q.hi, .int .i64 q.gr, .slice ae me ce]) => (by have h' := First_any b x _ h HSB.out; rw [HBE.out] at h'; exact h' : Calls Try.prog 21 #[.agg #[.int .i64 q.op, .int .u64 q.set.a, .int .u64 q.set.b, .int .u64 q.set.c, .int .u64 q.set.d, .int .i64 q.lo, .int .i64 q.hi, .int .i64 q.gr, .slice ae me ce]] x fun e w' => e = .returned (.tuple #[.agg #[.int .u64 (B.first).a, .int .u64 (B.first).b, .int .u64 (B.first).c, .int .u64 (B.first).d], .bool B.null]) ∧ Below x.heap.size x w'))
    have HFd := hid (fun (x : World) (h : (a.alt2 b).In x [.int .i64 4, .int .u64 0, .int .u64 0, .int .u64 0, .int .u64 0, .int .i64 0, .int .i64 0, .int .i64 0, .slice (some ⟨b7, 0, none⟩) 2 2]) => (by have h' := First_any (a.alt2 b) x _ h HS6.out; rw [HCM.out.afacts, HAE.out, HBE.out] at h'; simpa [Facts.alt, Cs.cells, hnA] using h' : Calls Try.prog 21 #[.agg #[.int .i64 4, .int .u64 0, .int .u64 0, .int .u64 0, .int .u64 0, .int .i64 0, .int .i64 0, .int .i64 0, .slice (some ⟨b7, 0, none⟩) 2 2]] x fun e w' => e = .returned (.tuple #[.agg #[.int .u64 (A.first.union B.first).a, .int .u64 (A.first.union B.first).b, .int .u64 (A.first.union B.first).c, .int .u64 (A.first.union B.first).d], .bool B.null]) ∧ Below x.heap.size x w'))
    have HFc := hid (fun (x : World) (h : (a.cat2 b).In x [.int .i64 3, .int .u64 0, .int .u64 0, .int .u64 0, .int .u64 0, .int .i64 0, .int .i64 0, .int .i64 0, .slice (some ⟨b3, 0, none⟩) 2 2]) => (by have h' := First_any (a.cat2 b) x _ h HS5.out; rw [HCM.out.cfacts, HAE.out, HBE.out] at h'; simpa [Facts.cat, Cs.cells, hnA] using h' : Calls Try.prog 21 #[.agg #[.int .i64 3, .int .u64 0, .int .u64 0, .int .u64 0, .int .u64 0, .int .i64 0, .int .i64 0, .int .i64 0, .slice (some ⟨b3, 0, none⟩) 2 2]] x fun e w' => e = .returned (.tuple #[.agg #[.int .u64 (A.first).a, .int .u64 (A.first).b, .int .u64 (A.first).c, .int .u64 (A.first).d], .bool false]) ∧ Below x.heap.size x w'))
    have HNc := hid (fun (x : World) (h : (a.cat2 b).In x [.int .i64 3, .int .u64 0, .int .u64 0, .int .u64 0, .int .u64 0, .int .i64 0, .int .i64 0, .int .i64 0, .slice (some ⟨b3, 0, none⟩) 2 2]) => (by have h' := Nullable_any (a.cat2 b) x _ h HS5.out; rw [HCM.out.cfacts, HAE.out, HBE.out] at h'; simpa [Facts.cat, hnA] using h' : Calls Try.prog 23 #[.agg #[.int .i64 3, .int .u64 0, .int .u64 0, .int .u64 0, .int .u64 0, .int .i64 0, .int .i64 0, .int .i64 0, .slice (some ⟨b3, 0, none⟩) 2 2]] x fun e w' => e = .returned (.bool false) ∧ Below x.heap.size x w'))
    have HNd := hid (fun (x : World) (h : (a.alt2 b).In x [.int .i64 4, .int .u64 0, .int .u64 0, .int .u64 0, .int .u64 0, .int .i64 0, .int .i64 0, .int .i64 0, .slice (some ⟨b7, 0, none⟩) 2 2]) => (by have h' := Nullable_any (a.alt2 b) x _ h HS6.out; rw [HCM.out.afacts, HAE.out, HBE.out] at h'; simpa [Facts.alt, hnA] using h' : Calls Try.prog 23 #[.agg #[.int .i64 4, .int .u64 0, .int .u64 0, .int .u64 0, .int .u64 0, .int .i64 0, .int .i64 0, .int .i64 0, .slice (some ⟨b7, 0, none⟩) 2 2]] x fun e w' => e = .returned (.bool B.null) ∧ Below x.heap.size x w'))
    clear hnA
    go_wp2_with fail
    refine (HFa.out _ CP6.out.ia).mono ?_
    rintro e v0 ⟨rfl, hbv⟩
    have CPv0 := hid (CP6.out.later hbv)
    clear hbv
    clear qa6 qb6 q56 q66 za6 zb6 z56 z66
    have qa7 := CPv0.out.ra.c9
    have qb7 := CPv0.out.rb.c9
    have q57 := CPv0.out.r5.c9
    have q67 := CPv0.out.r6.c9
    have za7 := CPv0.out.ra.lt
    have zb7 := CPv0.out.rb.lt
    have z57 := CPv0.out.r5.lt
    have z67 := CPv0.out.r6.lt
    go_wp2_with fail
    have hal := (Below.refl v0.heap.size v0).alloc (Nat.le_refl _) (.cells #[.int .u64 (A.first).a, .int .u64 (A.first).b, .int .u64 (A.first).c, .int .u64 (A.first).d] 25)
    have CPw0 := hid (CPv0.out.later hal)
    have R00 := hid (Row.new (w := v0) (B := v0.heap.size) (cs := [.int .u64 (A.first).a, .int .u64 (A.first).b, .int .u64 (A.first).c, .int .u64 (A.first).d]) (T := 25) rfl)
    clear hal
    refine (HFb.out _ CPw0.out.ib).mono ?_
    rintro e v1 ⟨rfl, hbv⟩
    have CPv1 := hid (CPw0.out.later hbv)
    have R01 := hid (R00.out.below hbv R00.out.lt)
    clear hbv
    clear qa7 qb7 q57 q67 za7 zb7 z57 z67
    have qa8 := CPv1.out.ra.c9
    have qb8 := CPv1.out.rb.c9
    have q58 := CPv1.out.r5.c9
    have q68 := CPv1.out.r6.c9
    have za8 := CPv1.out.ra.lt
    have zb8 := CPv1.out.rb.lt
    have z58 := CPv1.out.r5.lt
    have z68 := CPv1.out.r6.lt
    go_wp2_with fail
    have hal := (Below.refl v1.heap.size v1).alloc (Nat.le_refl _) (.cells #[.int .u64 (B.first).a, .int .u64 (B.first).b, .int .u64 (B.first).c, .int .u64 (B.first).d] 25)
    have CPw1 := hid (CPv1.out.later hal)
    have R01 := hid (R01.out.below hal R01.out.lt)
    have R11 := hid (Row.new (w := v1) (B := v1.heap.size) (cs := [.int .u64 (B.first).a, .int .u64 (B.first).b, .int .u64 (B.first).c, .int .u64 (B.first).d]) (T := 25) rfl)
    clear hal
    refine (HFd.out _ CPw1.out.i6).mono ?_
    rintro e v2 ⟨rfl, hbv⟩
    have CPv2 := hid (CPw1.out.later hbv)
    have R02 := hid (R01.out.below hbv R01.out.lt)
    have R12 := hid (R11.out.below hbv R11.out.lt)
    clear hbv
    clear qa8 qb8 q58 q68 za8 zb8 z58 z68
    have qa9 := CPv2.out.ra.c9
    have qb9 := CPv2.out.rb.c9
    have q59 := CPv2.out.r5.c9
    have q69 := CPv2.out.r6.c9
    have za9 := CPv2.out.ra.lt
    have zb9 := CPv2.out.rb.lt
    have z59 := CPv2.out.r5.lt
    have z69 := CPv2.out.r6.lt
    go_wp2_with fail
    have hal := (Below.refl v2.heap.size v2).alloc (Nat.le_refl _) (.cells #[.int .u64 (A.first.union B.first).a, .int .u64 (A.first.union B.first).b, .int .u64 (A.first.union B.first).c, .int .u64 (A.first.union B.first).d] 25)
    have CPw2 := hid (CPv2.out.later hal)
    have R02 := hid (R02.out.below hal R02.out.lt)
    have R12 := hid (R12.out.below hal R12.out.lt)
    have R22 := hid (Row.new (w := v2) (B := v2.heap.size) (cs := [.int .u64 (A.first.union B.first).a, .int .u64 (A.first.union B.first).b, .int .u64 (A.first.union B.first).c, .int .u64 (A.first.union B.first).d]) (T := 25) rfl)
    clear hal
    refine (HFc.out _ CPw2.out.i5).mono ?_
    rintro e v3 ⟨rfl, hbv⟩
    have CPv3 := hid (CPw2.out.later hbv)
    have R03 := hid (R02.out.below hbv R02.out.lt)
    have R13 := hid (R12.out.below hbv R12.out.lt)
    have R23 := hid (R22.out.below hbv R22.out.lt)
    clear hbv
    clear qa9 qb9 q59 q69 za9 zb9 z59 z69
    have qa10 := CPv3.out.ra.c9
    have qb10 := CPv3.out.rb.c9
    have q510 := CPv3.out.r5.c9
    have q610 := CPv3.out.r6.c9
    have za10 := CPv3.out.ra.lt
    have zb10 := CPv3.out.rb.lt
    have z510 := CPv3.out.r5.lt
    have z610 := CPv3.out.r6.lt
    go_wp2_with fail
    have hal := (Below.refl v3.heap.size v3).alloc (Nat.le_refl _) (.cells #[.int .u64 (A.first).a, .int .u64 (A.first).b, .int .u64 (A.first).c, .int .u64 (A.first).d] 25)
    have CPw3 := hid (CPv3.out.later hal)
    have R03 := hid (R03.out.below hal R03.out.lt)
    have R13 := hid (R13.out.below hal R13.out.lt)
    have R23 := hid (R23.out.below hal R23.out.lt)
    have R33 := hid (Row.new (w := v3) (B := v3.heap.size) (cs := [.int .u64 (A.first).a, .int .u64 (A.first).b, .int .u64 (A.first).c, .int .u64 (A.first).d]) (T := 25) rfl)
    clear hal
    have heq := fun (s : Cs) (x : World) => eq_self s x
    generalize v3.alloc (.cells #[.int .u64 (A.first).a, .int .u64 (A.first).b, .int .u64 (A.first).c, .int .u64 (A.first).d] 25) = yf at *
    have HCf := hid (fun (x : World) (hx : Grow yf.drew x) => And.intro ((R03.out.drew.below hx R03.out.drew.lt).c4) (And.intro ((R13.out.drew.below hx R13.out.drew.lt).c4) (And.intro ((R23.out.drew.below hx R23.out.drew.lt).c4) ((R33.out.drew.below hx R33.out.drew.lt).c4))))
    clear qa10 qb10 q510 q610 za10 zb10 z510 z610
    refine wp_region_inv 38 (Grow) (by kernel_rfl) (by kernel_rfl) (Grow.refl) (fun _ _ _ => Grow.trans) ?_
    simp only [fill, dstOf, Act.put, List.take_succ_cons, List.take_zero, List.getElem?_toArray, List.getElem?_cons_zero, List.getElem?_cons_succ, Option.bind_some, List.setIfInBounds_toArray, List.set_cons_zero, List.set_cons_succ]
    refine Plan.det 1 rfl (Grow.refl) ?_
    apply Exists.intro
    refine ⟨fun vs x hR hF K hK => ?_, ?_⟩
    · have hc := HCf.out x hR; clear hF
      go_simp
      exact hK _ _ (Grow.refl _) rfl
    refine Plan.det 2 rfl (Grow.refl) ?_
    apply Exists.intro
    refine ⟨fun vs x hR hF K hK => ?_, ?_⟩
    · have hc := HCf.out x hR; clear hF
      go_simp
      exact hK _ _ (Grow.refl _) rfl
    refine Plan.det 3 rfl (Grow.refl) ?_
    apply Exists.intro
    refine ⟨fun vs x hR hF K hK => ?_, ?_⟩
    · have hc := HCf.out x hR; clear hF
      go_simp
      exact hK _ _ (Grow.refl _) rfl
    refine Plan.det 4 rfl (Grow.refl) ?_
    apply Exists.intro
    refine ⟨fun vs x hR hF K hK => ?_, ?_⟩
    · have f1 := hF 1 _ _ rfl rfl; have f2 := hF 0 _ _ rfl rfl; clear hF
      go_simp
      refine (UnionRef_any A.first B.first x HWFA.out.first HWFB.out.first).mono ?_
      rintro e x1 ⟨rfl, hbe⟩
      exact ⟨_, rfl, hK _ _ hbe rfl⟩
    refine Plan.det 5 rfl (Grow.refl) ?_
    apply Exists.intro
    refine ⟨fun vs x hR hF K hK => ?_, ?_⟩
    · have f0 := hF 3 _ _ rfl rfl; have f3 := hF 0 _ _ rfl rfl; clear hF
      go_simp
      exact hK _ _ (Grow.refl _) rfl
    refine Plan.det 6 rfl (Grow.refl) ?_
    apply Exists.intro
    refine ⟨fun vs x hR hF K hK => ?_, ?_⟩
    · have f3 := hF 1 _ _ rfl rfl; have f4 := hF 0 _ _ rfl rfl; clear hF
      go_simp
      exact hK _ _ (Grow.refl _) rfl
    refine Plan.det 7 rfl (Grow.refl) ?_
    apply Exists.intro
    refine ⟨fun vs x hR hF K hK => ?_, ?_⟩
    · have f5 := hF 0 _ _ rfl rfl; clear hF
      go_simp
      exact hK _ _ (Grow.refl _) rfl
    refine Plan.det 8 rfl (Grow.refl) ?_
    apply Exists.intro
    refine ⟨fun vs x hR hF K hK => ?_, ?_⟩
    · have f5 := hF 1 _ _ rfl rfl; clear hF
      go_simp
      exact hK _ _ (Grow.refl _) rfl
    refine Plan.det 9 rfl (Grow.refl) ?_
    apply Exists.intro
    refine ⟨fun vs x hR hF K hK => ?_, ?_⟩
    · have f5 := hF 2 _ _ rfl rfl; have f7 := hF 0 _ _ rfl rfl; clear hF
      go_simp
      exact hK _ _ (Grow.refl _) rfl
    refine Plan.det 10 rfl (Grow.refl) ?_
    apply Exists.intro
    refine ⟨fun vs x hR hF K hK => ?_, ?_⟩
    · have f8 := hF 0 _ _ rfl rfl; clear hF
      go_simp
      exact hK _ _ (Grow.refl _) rfl
    refine Plan.det 11 rfl (Grow.refl) ?_
    apply Exists.intro
    refine ⟨fun vs x hR hF K hK => ?_, ?_⟩
    · have f5 := hF 4 _ _ rfl rfl; have f8 := hF 1 _ _ rfl rfl; have f9 := hF 0 _ _ rfl rfl; clear hF
      go_simp
      exact hK _ _ (Grow.refl _) rfl
    refine Plan.det 12 rfl (Grow.refl) ?_
    apply Exists.intro
    refine ⟨fun vs x hR hF K hK => ?_, ?_⟩
    · have f5 := hF 5 _ _ rfl rfl; have f6 := hF 4 _ _ rfl rfl; have f10 := hF 0 _ _ rfl rfl; clear hF
      go_simp
      exact hK _ _ (Grow.refl _) rfl
    refine Plan.det 13 rfl (Grow.refl) ?_
    apply Exists.intro
    refine ⟨fun vs x hR hF K hK => ?_, ?_⟩
    · have f5 := hF 6 _ _ rfl rfl; have f11 := hF 0 _ _ rfl rfl; clear hF
      go_simp
      exact hK _ _ (Grow.refl _) rfl
    refine Plan.det 14 rfl (Grow.refl) ?_
    apply Exists.intro
    refine ⟨fun vs x hR hF K hK => ?_, ?_⟩
    · have f8 := hF 4 _ _ rfl rfl; have f12 := hF 0 _ _ rfl rfl; clear hF
      go_simp
      exact hK _ _ (Grow.refl _) rfl
    refine Plan.det 15 rfl (Grow.refl) ?_
    apply Exists.intro
    refine ⟨fun vs x hR hF K hK => ?_, ?_⟩
    · have f13 := hF 0 _ _ rfl rfl; clear hF
      go_simp
      exact hK _ _ (Grow.refl _) rfl
    refine Plan.det 16 rfl (Grow.refl) ?_
    apply Exists.intro
    refine ⟨fun vs x hR hF K hK => ?_, ?_⟩
    · have f13 := hF 1 _ _ rfl rfl; clear hF
      go_simp
      exact hK _ _ (Grow.refl _) rfl
    refine Plan.det 17 rfl (Grow.refl) ?_
    apply Exists.intro
    refine ⟨fun vs x hR hF K hK => ?_, ?_⟩
    · have f13 := hF 2 _ _ rfl rfl; have f15 := hF 0 _ _ rfl rfl; clear hF
      go_simp
      exact hK _ _ (Grow.refl _) rfl
    refine Plan.det 18 rfl (Grow.refl) ?_
    apply Exists.intro
    refine ⟨fun vs x hR hF K hK => ?_, ?_⟩
    · have f16 := hF 0 _ _ rfl rfl; clear hF
      go_simp
      exact hK _ _ (Grow.refl _) rfl
    refine Plan.det 19 rfl (Grow.refl) ?_
    apply Exists.intro
    refine ⟨fun vs x hR hF K hK => ?_, ?_⟩
    · have f13 := hF 4 _ _ rfl rfl; have f16 := hF 1 _ _ rfl rfl; have f17 := hF 0 _ _ rfl rfl; clear hF
      go_simp
      exact hK _ _ (Grow.refl _) rfl
    refine Plan.det 20 rfl (Grow.refl) ?_
    apply Exists.intro
    refine ⟨fun vs x hR hF K hK => ?_, ?_⟩
    · have f13 := hF 5 _ _ rfl rfl; have f14 := hF 4 _ _ rfl rfl; have f18 := hF 0 _ _ rfl rfl; clear hF
      go_simp
      exact hK _ _ (Grow.refl _) rfl
    refine Plan.det 21 rfl (Grow.refl) ?_
    apply Exists.intro
    refine ⟨fun vs x hR hF K hK => ?_, ?_⟩
    · have f13 := hF 6 _ _ rfl rfl; have f19 := hF 0 _ _ rfl rfl; clear hF
      go_simp
      exact hK _ _ (Grow.refl _) rfl
    refine Plan.det 22 rfl (Grow.refl) ?_
    apply Exists.intro
    refine ⟨fun vs x hR hF K hK => ?_, ?_⟩
    · have f16 := hF 4 _ _ rfl rfl; have f20 := hF 0 _ _ rfl rfl; clear hF
      go_simp
      exact hK _ _ (Grow.refl _) rfl
    refine Plan.det 23 rfl (Grow.refl) ?_
    apply Exists.intro
    refine ⟨fun vs x hR hF K hK => ?_, ?_⟩
    · have f21 := hF 0 _ _ rfl rfl; clear hF
      go_simp
      exact hK _ _ (Grow.refl _) rfl
    refine Plan.det 24 rfl (Grow.refl) ?_
    apply Exists.intro
    refine ⟨fun vs x hR hF K hK => ?_, ?_⟩
    · have f21 := hF 1 _ _ rfl rfl; have f22 := hF 0 _ _ rfl rfl; clear hF
      go_simp
      exact hK _ _ (Grow.refl _) rfl
    refine Plan.det 25 rfl (Grow.refl) ?_
    apply Exists.intro
    refine ⟨fun vs x hR hF K hK => ?_, ?_⟩
    · have f21 := hF 2 _ _ rfl rfl; have f23 := hF 0 _ _ rfl rfl; clear hF
      go_simp
      exact hK _ _ (Grow.refl _) rfl
    refine Plan.det 26 rfl (Grow.refl) ?_
    apply Exists.intro
    refine ⟨fun vs x hR hF K hK => ?_, ?_⟩
    · have f24 := hF 0 _ _ rfl rfl; have hc := HCf.out x hR; clear hF
      go_simp
      exact hK _ _ (Grow.refl _) rfl
    refine Plan.det 27 rfl (Grow.refl) ?_
    apply Exists.intro
    refine ⟨fun vs x hR hF K hK => ?_, ?_⟩
    · have f24 := hF 1 _ _ rfl rfl; have hc := HCf.out x hR; clear hF
      go_simp
      exact hK _ _ (Grow.refl _) rfl
    refine Plan.det 28 rfl (Grow.refl) ?_
    apply Exists.intro
    refine ⟨fun vs x hR hF K hK => ?_, ?_⟩
    · have f24 := hF 2 _ _ rfl rfl; have f25 := hF 1 _ _ rfl rfl; have f26 := hF 0 _ _ rfl rfl; clear hF
      go_simp
      exact hK _ _ (Grow.refl _) rfl
    refine Plan.det 29 rfl (Grow.refl) ?_
    apply Exists.intro
    refine ⟨fun vs x hR hF K hK => ?_, ?_⟩
    · have f21 := hF 6 _ _ rfl rfl; have f24 := hF 3 _ _ rfl rfl; have f27 := hF 0 _ _ rfl rfl; clear hF
      go_simp
      exact hK _ _ (Grow.refl _) rfl
    refine Plan.det 30 rfl (Grow.refl) ?_
    apply Exists.intro
    refine ⟨fun vs x hR hF K hK => ?_, ?_⟩
    · have f21 := hF 7 _ _ rfl rfl; have f28 := hF 0 _ _ rfl rfl; clear hF
      go_simp
      exact hK _ _ (Grow.refl _) rfl
    refine Plan.det 31 rfl (Grow.refl) ?_
    apply Exists.intro
    refine ⟨fun vs x hR hF K hK => ?_, ?_⟩
    · have f24 := hF 5 _ _ rfl rfl; have f29 := hF 0 _ _ rfl rfl; clear hF
      go_simp
      exact hK _ _ (Grow.refl _) rfl
    refine Plan.det 32 rfl (Grow.refl) ?_
    apply Exists.intro
    refine ⟨fun vs x hR hF K hK => ?_, ?_⟩
    · have f30 := hF 0 _ _ rfl rfl; clear hF
      go_simp
      exact hK _ _ (Grow.refl _) rfl
    refine Plan.det 33 rfl (Grow.refl) ?_
    apply Exists.intro
    refine ⟨fun vs x hR hF K hK => ?_, ?_⟩
    · have f30 := hF 1 _ _ rfl rfl; have f31 := hF 0 _ _ rfl rfl; clear hF
      go_simp
      exact hK _ _ (Grow.refl _) rfl
    refine Plan.det 34 rfl (Grow.refl) ?_
    apply Exists.intro
    refine ⟨fun vs x hR hF K hK => ?_, ?_⟩
    · have f32 := hF 0 _ _ rfl rfl; have hc := HCf.out x hR; clear hF
      go_simp
      exact hK _ _ (Grow.refl _) rfl
    refine Plan.det 35 rfl (Grow.refl) ?_
    apply Exists.intro
    refine ⟨fun vs x hR hF K hK => ?_, ?_⟩
    · have f32 := hF 1 _ _ rfl rfl; have hc := HCf.out x hR; clear hF
      go_simp
      exact hK _ _ (Grow.refl _) rfl
    refine Plan.det 36 rfl (Grow.refl) ?_
    apply Exists.intro
    refine ⟨fun vs x hR hF K hK => ?_, ?_⟩
    · have f32 := hF 2 _ _ rfl rfl; have f33 := hF 1 _ _ rfl rfl; have f34 := hF 0 _ _ rfl rfl; clear hF
      go_simp
      exact hK _ _ (Grow.refl _) rfl
    refine Plan.det 37 rfl (Grow.refl) ?_
    apply Exists.intro
    refine ⟨fun vs x hR hF K hK => ?_, ?_⟩
    · have f30 := hF 5 _ _ rfl rfl; have f32 := hF 3 _ _ rfl rfl; have f35 := hF 0 _ _ rfl rfl; clear hF
      go_simp
      exact hK _ _ (Grow.refl _) rfl
    refine Plan.det 38 rfl (Grow.refl) ?_
    apply Exists.intro
    refine ⟨fun vs x hR hF K hK => ?_, ?_⟩
    · have f30 := hF 6 _ _ rfl rfl; have f36 := hF 0 _ _ rfl rfl; clear hF
      go_simp
      exact hK _ _ (Grow.refl _) rfl
    refine Plan.nil (fun vs x hR hF => ?_)
    have f0 := hF 37 _ _ rfl; have f1 := hF 36 _ _ rfl; have f2 := hF 35 _ _ rfl; have f3 := hF 34 _ _ rfl; have f4 := hF 33 _ _ rfl; have f5 := hF 32 _ _ rfl; have f6 := hF 31 _ _ rfl; have f7 := hF 30 _ _ rfl; have f8 := hF 29 _ _ rfl; have f9 := hF 28 _ _ rfl; have f10 := hF 27 _ _ rfl; have f11 := hF 26 _ _ rfl; have f12 := hF 25 _ _ rfl; have f13 := hF 24 _ _ rfl; have f14 := hF 23 _ _ rfl; have f15 := hF 22 _ _ rfl; have f16 := hF 21 _ _ rfl; have f17 := hF 20 _ _ rfl; have f18 := hF 19 _ _ rfl; have f19 := hF 18 _ _ rfl; have f20 := hF 17 _ _ rfl; have f21 := hF 16 _ _ rfl; have f22 := hF 15 _ _ rfl; have f23 := hF 14 _ _ rfl; have f24 := hF 13 _ _ rfl; have f25 := hF 12 _ _ rfl; have f26 := hF 11 _ _ rfl; have f27 := hF 10 _ _ rfl; have f28 := hF 9 _ _ rfl; have f29 := hF 8 _ _ rfl; have f30 := hF 7 _ _ rfl; have f31 := hF 6 _ _ rfl; have f32 := hF 5 _ _ rfl; have f33 := hF 4 _ _ rfl; have f34 := hF 3 _ _ rfl; have f35 := hF 2 _ _ rfl; have f36 := hF 1 _ _ rfl; have f37 := hF 0 _ _ rfl
    clear hF
    simp only [f0, f1, f2, f3, f4, f5, f6, f7, f8, f9, f10, f11, f12, f13, f14, f15, f16, f17, f18, f19, f20, f21, f22, f23, f24, f25, f26, f27, f28, f29, f30, f31, f32, f33, f34, f35, f36, f37]
    clear f0 f1 f2 f3 f4 f5 f6 f7 f8 f9 f10 f11 f12 f13 f14 f15 f16 f17 f18 f19 f20 f21 f22 f23 f24 f25 f26 f27 f28 f29 f30 f31 f32 f33 f34 f35 f36 f37
    simp only [List.drop_succ_cons, List.drop_zero]
    have CPz := hid (CPw3.out.later ((Below.refl _ yf).drew.trans hR))
    clear hR HCf
    have qa20 := CPz.out.ra.c9
    have qb20 := CPz.out.rb.c9
    have q520 := CPz.out.r5.c9
    have q620 := CPz.out.r6.c9
    have za20 := CPz.out.ra.lt
    have zb20 := CPz.out.rb.lt
    have z520 := CPz.out.r5.lt
    have z620 := CPz.out.r6.lt
    go_wp2_with fail
    refine (HNc.out _ CPz.out.i5).mono ?_
    rintro e u1 ⟨rfl, hu1⟩
    have CU1 := hid (CPz.out.later hu1)
    clear hu1
    clear qa20 qb20 q520 q620 za20 zb20 z520 z620
    have qa21 := CU1.out.ra.c9
    have qb21 := CU1.out.rb.c9
    have q521 := CU1.out.r5.c9
    have q621 := CU1.out.r6.c9
    have za21 := CU1.out.ra.lt
    have zb21 := CU1.out.rb.lt
    have z521 := CU1.out.r5.lt
    have z621 := CU1.out.r6.lt
    go_wp2_with fail
    refine (HNd.out _ CU1.out.i6).mono ?_
    rintro e u2 ⟨rfl, hu2⟩
    have CU2 := hid (CU1.out.later hu2)
    clear hu2
    clear qa21 qb21 q521 q621 za21 zb21 z521 z621
    have qa22 := CU2.out.ra.c9
    have qb22 := CU2.out.rb.c9
    have q522 := CU2.out.r5.c9
    have q622 := CU2.out.r6.c9
    have za22 := CU2.out.ra.lt
    have zb22 := CU2.out.rb.lt
    have z522 := CU2.out.r5.lt
    have z622 := CU2.out.r6.lt
    go_wp2_with fail
    refine (awake_any _).mono ?_
    rintro e ya ⟨rfl, hba⟩
    have HBA : Hid (Below w.heap.size w ya) := CU2.out.bw.trans (hba.mono CU2.out.bw.size)
    clear hba
    go_wp2_with fail
    all_goals go_ret
    all_goals exact ⟨rfl, HBA.out⟩
end Go.Proofs.Ytibfnmkeghkdpaa
