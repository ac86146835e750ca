/- The reference's Alike. -/
import Derived.Test.YtjjhdddlbgdkeaaDoorG32
import Derived.Test.YtjjhdddlbgdkeaaDoorG25
namespace Go.Proofs.YtjjhdddlbgdkeaaDoor
open Go.RowKit
attribute [local go_sem] gives givesUpon

theorem row_snd (w : World) (a : Obj) (cs : List Value) (T : TypeId) : Row ((w.alloc a).alloc (.cells cs.toArray T)) (w.heap.size + 1) cs T := by
  have h : (w.alloc a).heap.size = w.heap.size + 1 := by simp
  rw [← h]
  exact Row.at _ _ _
set_option maxRecDepth 100000 in
set_option maxHeartbeats 8000000 in
theorem used_any (f : Inst) (w : World) :
    Calls Tryd.prog 23 #[.agg f.cells.toArray] w fun e w' => e = .returned (.agg (usedOf f).cells.toArray) ∧ Below w.heap.size w w' := by
  obtain ⟨fop, ⟨sa, sb, sc, sd⟩, fx, fy⟩ := f
  unfold usedOf
  simp only [Inst.cells]
  by_cases h1 : fop = 1
  · subst h1
    go_enter Tryd.func23, Tryd.ntmps23
    go_wp2_with fail
    (try simp only [Exit.inBlock, Exit.then])
    refine bodyPost_ret (results_cell_row rfl _ _ (w.heap.size + 1) _ _ _ _ rfl (show _ = some (Obj.cells (List.toArray _) _) from row_snd _ _ _ _) Tryd.underlying35 rfl (by kernel_rfl)) rfl ?_
    exact ⟨rfl, (Grow.alloc w _).trans (Grow.alloc _ _)⟩
  have d1 : (fop == 1) = false := by simpa using h1
  by_cases h2 : fop = 2
  · subst h2
    go_enter Tryd.func23, Tryd.ntmps23
    go_wp2_with fail
    (try simp only [Exit.inBlock, Exit.then])
    refine bodyPost_ret (results_cell_row rfl _ _ (w.heap.size + 1) _ _ _ _ rfl (show _ = some (Obj.cells (List.toArray _) _) from row_snd _ _ _ _) Tryd.underlying35 rfl (by kernel_rfl)) rfl ?_
    exact ⟨rfl, (Grow.alloc w _).trans (Grow.alloc _ _)⟩
  have d2 : (fop == 2) = false := by simpa using h2
  by_cases h3 : fop = 3
  · subst h3
    go_enter Tryd.func23, Tryd.ntmps23
    go_wp2_with fail
    (try simp only [Exit.inBlock, Exit.then])
    refine bodyPost_ret (results_cell_row rfl _ _ (w.heap.size + 1) _ _ _ _ rfl (show _ = some (Obj.cells (List.toArray _) _) from row_snd _ _ _ _) Tryd.underlying35 rfl (by kernel_rfl)) rfl ?_
    exact ⟨rfl, (Grow.alloc w _).trans (Grow.alloc _ _)⟩
  have d3 : (fop == 3) = false := by simpa using h3
  rw [if_neg h1, if_neg h2, if_neg h3]
  go_enter Tryd.func23, Tryd.ntmps23
  go_wp2_with fail
  (try simp only [Exit.inBlock, Exit.then])
  refine bodyPost_ret (results_cell_row rfl _ _ (w.heap.size + 1) _ _ _ _ rfl (show _ = some (Obj.cells (List.toArray _) _) from row_snd _ _ _ _) Tryd.underlying35 rfl (by kernel_rfl)) rfl ?_
  exact ⟨rfl, (Grow.alloc w _).trans (Grow.alloc _ _)⟩
/-- The walk of Alike. -/
def AlPost (L M : List Inst) (l m : Bool) (w : World) (e : Ending) (w' : World) : Prop := ∃ bv, e = .returned (.bool bv) ∧ (bv = true ↔ alike L M l m) ∧ Below w.heap.size w w'
set_option maxRecDepth 100000 in
set_option maxHeartbeats 8000000 in
theorem Alike_any (w : World) (a b : Option Addr) (c d : Nat) (L M : List Inst) (l m : Bool) (h1 : InsAt w a L) (h2 : InsAt w b M) (hL : L.length ≤ 1048576) (_hM : M.length ≤ 1048576) :
    Calls Tryd.prog 10 #[.agg #[.slice a L.length c, .bool l], .agg #[.slice b M.length d, .bool m]] w (AlPost L M l m w) := by
  have HPT : Hid (∀ w', alike L M l m → Below w.heap.size w w' → AlPost L M l m w (.returned (.bool true)) w') := fun w' h1 h2 => ⟨true, rfl, by simp [h1], h2⟩
  have HPF : Hid (∀ w', ¬ alike L M l m → Below w.heap.size w w' → AlPost L M l m w (.returned (.bool false)) w') := fun w' h1 h2 => ⟨false, rfl, by simp [h1], h2⟩
  have HAL : Hid (alike L M l m ↔ (L.length = M.length ∧ l = m ∧ ∀ k (h : k < L.length) (h' : k < M.length), usedOf L[k] = usedOf M[k])) := Iff.rfl
  generalize alike L M l m = AA at *
  generalize AlPost L M l m w = PP at *
  by_cases hlen : L.length = M.length
  case neg =>
    have HN : Hid (¬ AA) := fun h => hlen (HAL.out.1 h).1
    have dn : ((L.length : Int) == (M.length : Int)) = false := by rw [beq_eq_false_iff_ne]; intro h; exact hlen (by omega)
    have HB0 : Hid (Below w.heap.size w ((w.alloc (.cells #[.slice a L.length c, .bool l] 24)).alloc (.cells #[.slice b M.length d, .bool m] 24))) := (Grow.alloc w _).trans (Grow.alloc _ _)
    clear h1 h2
    go_enter Tryd.func10, Tryd.ntmps10
    go_wp2_with fail
    all_goals (try go_ret)
    all_goals exact HPF.out _ HN.out HB0.out
  rw [← hlen]
  have HLN := hid hlen
  clear hlen
  by_cases hlm : l = m
  case neg =>
    have HN : Hid (¬ AA) := fun h => hlm (HAL.out.1 h).2.1
    have dm : (l == m) = false := by simpa using hlm
    have HB0 : Hid (Below w.heap.size w ((w.alloc (.cells #[.slice a L.length c, .bool l] 24)).alloc (.cells #[.slice b L.length d, .bool m] 24))) := (Grow.alloc w _).trans (Grow.alloc _ _)
    clear h1 h2
    go_enter Tryd.func10, Tryd.ntmps10
    go_wp2_with fail
    all_goals (try go_ret)
    all_goals exact HPF.out _ HN.out HB0.out
  subst hlm
  have HB0 : Hid (Below w.heap.size w ((w.alloc (.cells #[.slice a L.length c, .bool l] 24)).alloc (.cells #[.slice b L.length d, .bool l] 24))) := (Grow.alloc w _).trans (Grow.alloc _ _)
  have HX1 : Hid (Row ((w.alloc (.cells #[.slice a L.length c, .bool l] 24)).alloc (.cells #[.slice b L.length d, .bool l] 24)) w.heap.size [.slice a L.length c, .bool l] 24) := (Row.at w [.slice a L.length c, .bool l] 24).below (Grow.alloc _ _) (by simp)
  have HX2 : Hid (Row ((w.alloc (.cells #[.slice a L.length c, .bool l] 24)).alloc (.cells #[.slice b L.length d, .bool l] 24)) (w.heap.size + 1) [.slice b L.length d, .bool l] 24) := row_snd _ _ _ _
  have HI1 : Hid (InsAt ((w.alloc (.cells #[.slice a L.length c, .bool l] 24)).alloc (.cells #[.slice b L.length d, .bool l] 24)) a L) := h1.below HB0.out (Nat.le_refl _)
  have HI2 : Hid (InsAt ((w.alloc (.cells #[.slice a L.length c, .bool l] 24)).alloc (.cells #[.slice b L.length d, .bool l] 24)) b M) := h2.below HB0.out (Nat.le_refl _)
  clear h1 h2
  go_enter Tryd.func10, Tryd.ntmps10
  go_upto_region 1 with fail
  generalize ((w.alloc (.cells #[.slice a L.length c, .bool l] 24)).alloc (.cells #[.slice b L.length d, .bool l] 24)) = W2 at *
  have q1 : W2.cell? ⟨w.heap.size, 0, none⟩ = some (.slice a L.length c) ∧ W2.cell? ⟨w.heap.size, 1, none⟩ = some (.bool l) := ⟨HX1.out.cell 0, HX1.out.cell 1⟩
  have q2 : W2.cell? ⟨w.heap.size + 1, 0, none⟩ = some (.slice b L.length d) ∧ W2.cell? ⟨w.heap.size + 1, 1, none⟩ = some (.bool l) := ⟨HX2.out.cell 0, HX2.out.cell 1⟩
  generalize hb0 : w.heap.size = b0 at q1 q2 HX1 HX2
  have HB0E := hid hb0
  clear hb0
  go_wp2_with fail
  clear q1 q2
  go_loopw [5] (fun v wr => ∃ k : Nat, k ≤ L.length ∧ v = .int .i64 k ∧ Hid (Below W2.heap.size W2 wr) ∧ Hid (∀ j (h : j < L.length) (h' : j < M.length), j < k → usedOf L[j] = usedOf M[j])) (fun v _ => L.length - (intOf v).toNat)
  case atStart => exact ⟨0, by omega, rfl, Below.refl _ _, fun j _ _ h => by omega⟩
  case round =>
    obtain ⟨k, hk, rfl, HW, HE⟩ := hrel
    have HR1 := hid (HX1.out.below HW.out HX1.out.lt)
    have HR2 := hid (HX2.out.below HW.out HX2.out.lt)
    have q1 : wr.cell? ⟨b0, 0, none⟩ = some (.slice a L.length c) := HR1.out.cell 0
    have q2 : wr.cell? ⟨b0 + 1, 0, none⟩ = some (.slice b L.length d) := HR2.out.cell 0
    rcases Nat.lt_or_ge k L.length with hlt | hge
    · have hlt2 : k < M.length := by have := HLN.out; omega
      obtain ⟨fb, fo, hfa, hfb, hfc⟩ := (HI1.out.below HW.out (Nat.le_refl _)).at hlt
      obtain ⟨gb, go, hga, hgb, hgc⟩ := (HI2.out.below HW.out (Nat.le_refl _)).at hlt2
      subst hfa hga
      have HU1 := hid (fun y : World => used_any L[k] y)
      have HU2 := hid (fun y : World => used_any M[k] y)
      have HEN : Hid (¬ usedOf L[k] = usedOf M[k] → ¬ AA) := fun hn h => hn ((HAL.out.1 h).2.2 k hlt hlt2)
      have HEY : Hid (usedOf L[k] = usedOf M[k] → ∀ j (h : j < L.length) (h' : j < M.length), j < k + 1 → usedOf L[j] = usedOf M[j]) := fun hy j h h' hj => by
        by_cases e : j = k
        · subst e
          exact hy
        · exact HE.out j h h' (by omega)
      generalize L[k] = f1 at *
      generalize M[k] = g1 at *
      generalize usedOf f1 = u1 at *
      generalize usedOf g1 = u2 at *
      obtain ⟨fop, fset, fx, fy⟩ := f1
      obtain ⟨gop, gset, gx, gy⟩ := g1
      have HF2 : Hid (CellsAt wr fb (fo + k * 7) [.int .i64 fop, .int .u64 fset.a, .int .u64 fset.b, .int .u64 fset.c, .int .u64 fset.d, .int .i64 fx, .int .i64 fy]) := hfc
      have HG2 : Hid (CellsAt wr gb (go + k * 7) [.int .i64 gop, .int .u64 gset.a, .int .u64 gset.b, .int .u64 gset.c, .int .u64 gset.d, .int .i64 gx, .int .i64 gy]) := hgc
      have HFB : Hid (fb < wr.heap.size) := hfb
      have HGB : Hid (gb < wr.heap.size) := hgb
      have hkI : (k : Int) < (L.length : Int) := by omega
      simp only [Inst.cells] at HU1 HU2
      clear hfc hfb hgc hgb
      by_cases hu : u1 = u2
      · have HS := hid (HEY.out hu)
        have heq : ∀ x : World, (Op.equalIn 10000 35 (.agg #[.int .i64 u1.op, .int .u64 u1.set.a, .int .u64 u1.set.b, .int .u64 u1.set.c, .int .u64 u1.set.d, .int .i64 u1.x, .int .i64 u1.y]) (.agg #[.int .i64 u2.op, .int .u64 u2.set.a, .int .u64 u2.set.b, .int .u64 u2.set.c, .int .u64 u2.set.d, .int .i64 u2.x, .int .i64 u2.y])).run Tryd.prog x = .ok true x := fun x => by rw [run_eqIn_inst]; simp [hu]
        clear hu
        go_upto_region 6 with fail
        clear q1 q2
        have HC := hid (fun (x : World) (hx : Grow wr.drew x) => (show (x.cell? ⟨b0, 0, none⟩ = some (.slice (some ⟨fb, fo, none⟩) L.length c) ∧ x.cell? ⟨b0 + 1, 0, none⟩ = some (.slice (some ⟨gb, go, none⟩) L.length d)) ∧ (x.cell? ⟨fb, fo + k * 7, none⟩ = some (.int .i64 fop) ∧ x.cell? ⟨fb, fo + k * 7 + 1, none⟩ = some (.int .u64 fset.a) ∧ x.cell? ⟨fb, fo + k * 7 + 2, none⟩ = some (.int .u64 fset.b) ∧ x.cell? ⟨fb, fo + k * 7 + 3, none⟩ = some (.int .u64 fset.c) ∧ x.cell? ⟨fb, fo + k * 7 + 4, none⟩ = some (.int .u64 fset.d) ∧ x.cell? ⟨fb, fo + k * 7 + 5, none⟩ = some (.int .i64 fx) ∧ x.cell? ⟨fb, fo + k * 7 + 6, none⟩ = some (.int .i64 fy)) ∧ (x.cell? ⟨gb, go + k * 7, none⟩ = some (.int .i64 gop) ∧ x.cell? ⟨gb, go + k * 7 + 1, none⟩ = some (.int .u64 gset.a) ∧ x.cell? ⟨gb, go + k * 7 + 2, none⟩ = some (.int .u64 gset.b) ∧ x.cell? ⟨gb, go + k * 7 + 3, none⟩ = some (.int .u64 gset.c) ∧ x.cell? ⟨gb, go + k * 7 + 4, none⟩ = some (.int .u64 gset.d) ∧ x.cell? ⟨gb, go + k * 7 + 5, none⟩ = some (.int .i64 gx) ∧ x.cell? ⟨gb, go + k * 7 + 6, none⟩ = some (.int .i64 gy)) from by
          have hb : Below wr.heap.size wr x := ⟨hx.os, hx.tape, hx.output, hx.size, hx.block⟩
          have hq := cells7 (show CellsAt x fb (fo + k * 7) [.int .i64 fop, .int .u64 fset.a, .int .u64 fset.b, .int .u64 fset.c, .int .u64 fset.d, .int .i64 fx, .int .i64 fy] from fun j v hj => by
            rw [hb.cell (p := ⟨fb, fo + k * 7 + j, none⟩) HFB.out]
            exact HF2.out j v hj)
          have hr := cells7 (show CellsAt x gb (go + k * 7) [.int .i64 gop, .int .u64 gset.a, .int .u64 gset.b, .int .u64 gset.c, .int .u64 gset.d, .int .i64 gx, .int .i64 gy] from fun j v hj => by
            rw [hb.cell (p := ⟨gb, go + k * 7 + j, none⟩) HGB.out]
            exact HG2.out j v hj)
          exact ⟨⟨(HR1.out.below hb HR1.out.lt).cell 0, (HR2.out.below hb HR2.out.lt).cell 0⟩, hq, hr⟩))
        refine wp_region_inv 13 (Grow) (by kernel_rfl) (by kernel_rfl) (Grow.refl) (fun _ _ _ => Grow.trans) ?_
        simp only [fill, dstOf, Act.put, List.take_succ_cons, List.take_zero, List.getElem?_toArray, List.getElem?_cons_zero, List.getElem?_cons_succ, Option.bind_some, List.setIfInBounds_toArray, List.set_cons_zero, List.set_cons_succ]
        refine Plan.det 1 rfl (Grow.refl) ?_
        apply Exists.intro
        refine ⟨fun vs x hR hF K hK => ?_, ?_⟩
        · clear hF
          go_simp
          exact hK _ _ (Grow.refl _) rfl
        refine Plan.det 2 rfl (Grow.refl) ?_
        apply Exists.intro
        refine ⟨fun vs x hR hF K hK => ?_, ?_⟩
        · have f0 := hF 0 _ _ rfl rfl; have hc := HC.out x hR; clear hF
          go_simp
          exact hK _ _ (Grow.refl _) rfl
        refine Plan.det 3 rfl (Grow.refl) ?_
        apply Exists.intro
        refine ⟨fun vs x hR hF K hK => ?_, ?_⟩
        · clear hF
          go_simp
          exact hK _ _ (Grow.refl _) rfl
        refine Plan.det 4 rfl (Grow.refl) ?_
        apply Exists.intro
        refine ⟨fun vs x hR hF K hK => ?_, ?_⟩
        · have f1 := hF 1 _ _ rfl rfl; have f2 := hF 0 _ _ rfl rfl; clear hF
          go_simp
          exact hK _ _ (Grow.refl _) rfl
        refine Plan.det 5 rfl (Grow.refl) ?_
        apply Exists.intro
        refine ⟨fun vs x hR hF K hK => ?_, ?_⟩
        · have f3 := hF 0 _ _ rfl rfl; have hc := HC.out x hR; clear hF
          go_simp
          exact hK _ _ (Grow.refl _) rfl
        refine Plan.det 6 rfl (Grow.refl) ?_
        apply Exists.intro
        refine ⟨fun vs x hR hF K hK => ?_, ?_⟩
        · have f4 := hF 0 _ _ rfl rfl; clear hF
          go_simp
          refine (HU1.out x).mono ?_
          rintro e x1 ⟨rfl, hbe⟩
          exact ⟨_, rfl, hK _ _ hbe rfl⟩
        refine Plan.det 7 rfl (Grow.refl) ?_
        apply Exists.intro
        refine ⟨fun vs x hR hF K hK => ?_, ?_⟩
        · clear hF
          go_simp
          exact hK _ _ (Grow.refl _) rfl
        refine Plan.det 8 rfl (Grow.refl) ?_
        apply Exists.intro
        refine ⟨fun vs x hR hF K hK => ?_, ?_⟩
        · have f6 := hF 0 _ _ rfl rfl; have hc := HC.out x hR; clear hF
          go_simp
          exact hK _ _ (Grow.refl _) rfl
        refine Plan.det 9 rfl (Grow.refl) ?_
        apply Exists.intro
        refine ⟨fun vs x hR hF K hK => ?_, ?_⟩
        · clear hF
          go_simp
          exact hK _ _ (Grow.refl _) rfl
        refine Plan.det 10 rfl (Grow.refl) ?_
        apply Exists.intro
        refine ⟨fun vs x hR hF K hK => ?_, ?_⟩
        · have f7 := hF 1 _ _ rfl rfl; have f8 := hF 0 _ _ rfl rfl; clear hF
          go_simp
          exact hK _ _ (Grow.refl _) rfl
        refine Plan.det 11 rfl (Grow.refl) ?_
        apply Exists.intro
        refine ⟨fun vs x hR hF K hK => ?_, ?_⟩
        · have f9 := hF 0 _ _ rfl rfl; have hc := HC.out x hR; clear hF
          go_simp
          exact hK _ _ (Grow.refl _) rfl
        refine Plan.det 12 rfl (Grow.refl) ?_
        apply Exists.intro
        refine ⟨fun vs x hR hF K hK => ?_, ?_⟩
        · have f5 := hF 5 _ _ rfl rfl; have f10 := hF 0 _ _ rfl rfl; clear hF
          go_simp
          refine (HU2.out x).mono ?_
          rintro e x1 ⟨rfl, hbe⟩
          exact ⟨_, rfl, hK _ _ hbe rfl⟩
        refine Plan.det 13 rfl (Grow.refl) ?_
        apply Exists.intro
        refine ⟨fun vs x hR hF K hK => ?_, ?_⟩
        · have f5 := hF 6 _ _ rfl rfl; have f11 := hF 0 _ _ rfl rfl; clear hF
          go_simp
          exact hK _ _ (Grow.refl _) rfl
        refine Plan.nil (fun vs x hR hF => ?_)
        have f0 := hF 12 _ _ rfl; have f1 := hF 11 _ _ rfl; have f2 := hF 10 _ _ rfl; have f3 := hF 9 _ _ rfl; have f4 := hF 8 _ _ rfl; have f5 := hF 7 _ _ rfl; have f6 := hF 6 _ _ rfl; have f7 := hF 5 _ _ rfl; have f8 := hF 4 _ _ rfl; have f9 := hF 3 _ _ rfl; have f10 := hF 2 _ _ rfl; have f11 := hF 1 _ _ rfl; have f12 := hF 0 _ _ rfl
        clear hF
        simp only [f0, f1, f2, f3, f4, f5, f6, f7, f8, f9, f10, f11, f12]
        clear f0 f1 f2 f3 f4 f5 f6 f7 f8 f9 f10 f11 f12
        simp only [List.drop_succ_cons, List.drop_zero]
        have hbx : Below wr.heap.size wr x := ⟨hR.os, hR.tape, hR.output, hR.size, hR.block⟩
        have HW2 := hid (HW.out.trans (hbx.mono HW.out.size))
        clear HC hR hbx
        go_wp2_with fail
        all_goals
          refine ⟨⟨k + 1, hlt, rfl, HW2.out, HS.out⟩, ?_⟩
          show L.length - ((k : Int) + 1).toNat < L.length - (k : Int).toNat
          omega
      · have HS := hid (HEN.out hu)
        have heq : ∀ x : World, (Op.equalIn 10000 35 (.agg #[.int .i64 u1.op, .int .u64 u1.set.a, .int .u64 u1.set.b, .int .u64 u1.set.c, .int .u64 u1.set.d, .int .i64 u1.x, .int .i64 u1.y]) (.agg #[.int .i64 u2.op, .int .u64 u2.set.a, .int .u64 u2.set.b, .int .u64 u2.set.c, .int .u64 u2.set.d, .int .i64 u2.x, .int .i64 u2.y])).run Tryd.prog x = .ok false x := fun x => by rw [run_eqIn_inst]; simp [hu]
        clear hu
        go_upto_region 6 with fail
        clear q1 q2
        have HC := hid (fun (x : World) (hx : Grow wr.drew x) => (show (x.cell? ⟨b0, 0, none⟩ = some (.slice (some ⟨fb, fo, none⟩) L.length c) ∧ x.cell? ⟨b0 + 1, 0, none⟩ = some (.slice (some ⟨gb, go, none⟩) L.length d)) ∧ (x.cell? ⟨fb, fo + k * 7, none⟩ = some (.int .i64 fop) ∧ x.cell? ⟨fb, fo + k * 7 + 1, none⟩ = some (.int .u64 fset.a) ∧ x.cell? ⟨fb, fo + k * 7 + 2, none⟩ = some (.int .u64 fset.b) ∧ x.cell? ⟨fb, fo + k * 7 + 3, none⟩ = some (.int .u64 fset.c) ∧ x.cell? ⟨fb, fo + k * 7 + 4, none⟩ = some (.int .u64 fset.d) ∧ x.cell? ⟨fb, fo + k * 7 + 5, none⟩ = some (.int .i64 fx) ∧ x.cell? ⟨fb, fo + k * 7 + 6, none⟩ = some (.int .i64 fy)) ∧ (x.cell? ⟨gb, go + k * 7, none⟩ = some (.int .i64 gop) ∧ x.cell? ⟨gb, go + k * 7 + 1, none⟩ = some (.int .u64 gset.a) ∧ x.cell? ⟨gb, go + k * 7 + 2, none⟩ = some (.int .u64 gset.b) ∧ x.cell? ⟨gb, go + k * 7 + 3, none⟩ = some (.int .u64 gset.c) ∧ x.cell? ⟨gb, go + k * 7 + 4, none⟩ = some (.int .u64 gset.d) ∧ x.cell? ⟨gb, go + k * 7 + 5, none⟩ = some (.int .i64 gx) ∧ x.cell? ⟨gb, go + k * 7 + 6, none⟩ = some (.int .i64 gy)) from by
          have hb : Below wr.heap.size wr x := ⟨hx.os, hx.tape, hx.output, hx.size, hx.block⟩
          have hq := cells7 (show CellsAt x fb (fo + k * 7) [.int .i64 fop, .int .u64 fset.a, .int .u64 fset.b, .int .u64 fset.c, .int .u64 fset.d, .int .i64 fx, .int .i64 fy] from fun j v hj => by
            rw [hb.cell (p := ⟨fb, fo + k * 7 + j, none⟩) HFB.out]
            exact HF2.out j v hj)
          have hr := cells7 (show CellsAt x gb (go + k * 7) [.int .i64 gop, .int .u64 gset.a, .int .u64 gset.b, .int .u64 gset.c, .int .u64 gset.d, .int .i64 gx, .int .i64 gy] from fun j v hj => by
            rw [hb.cell (p := ⟨gb, go + k * 7 + j, none⟩) HGB.out]
            exact HG2.out j v hj)
          exact ⟨⟨(HR1.out.below hb HR1.out.lt).cell 0, (HR2.out.below hb HR2.out.lt).cell 0⟩, hq, hr⟩))
        refine wp_region_inv 13 (Grow) (by kernel_rfl) (by kernel_rfl) (Grow.refl) (fun _ _ _ => Grow.trans) ?_
        simp only [fill, dstOf, Act.put, List.take_succ_cons, List.take_zero, List.getElem?_toArray, List.getElem?_cons_zero, List.getElem?_cons_succ, Option.bind_some, List.setIfInBounds_toArray, List.set_cons_zero, List.set_cons_succ]
        refine Plan.det 1 rfl (Grow.refl) ?_
        apply Exists.intro
        refine ⟨fun vs x hR hF K hK => ?_, ?_⟩
        · clear hF
          go_simp
          exact hK _ _ (Grow.refl _) rfl
        refine Plan.det 2 rfl (Grow.refl) ?_
        apply Exists.intro
        refine ⟨fun vs x hR hF K hK => ?_, ?_⟩
        · have f0 := hF 0 _ _ rfl rfl; have hc := HC.out x hR; clear hF
          go_simp
          exact hK _ _ (Grow.refl _) rfl
        refine Plan.det 3 rfl (Grow.refl) ?_
        apply Exists.intro
        refine ⟨fun vs x hR hF K hK => ?_, ?_⟩
        · clear hF
          go_simp
          exact hK _ _ (Grow.refl _) rfl
        refine Plan.det 4 rfl (Grow.refl) ?_
        apply Exists.intro
        refine ⟨fun vs x hR hF K hK => ?_, ?_⟩
        · have f1 := hF 1 _ _ rfl rfl; have f2 := hF 0 _ _ rfl rfl; clear hF
          go_simp
          exact hK _ _ (Grow.refl _) rfl
        refine Plan.det 5 rfl (Grow.refl) ?_
        apply Exists.intro
        refine ⟨fun vs x hR hF K hK => ?_, ?_⟩
        · have f3 := hF 0 _ _ rfl rfl; have hc := HC.out x hR; clear hF
          go_simp
          exact hK _ _ (Grow.refl _) rfl
        refine Plan.det 6 rfl (Grow.refl) ?_
        apply Exists.intro
        refine ⟨fun vs x hR hF K hK => ?_, ?_⟩
        · have f4 := hF 0 _ _ rfl rfl; clear hF
          go_simp
          refine (HU1.out x).mono ?_
          rintro e x1 ⟨rfl, hbe⟩
          exact ⟨_, rfl, hK _ _ hbe rfl⟩
        refine Plan.det 7 rfl (Grow.refl) ?_
        apply Exists.intro
        refine ⟨fun vs x hR hF K hK => ?_, ?_⟩
        · clear hF
          go_simp
          exact hK _ _ (Grow.refl _) rfl
        refine Plan.det 8 rfl (Grow.refl) ?_
        apply Exists.intro
        refine ⟨fun vs x hR hF K hK => ?_, ?_⟩
        · have f6 := hF 0 _ _ rfl rfl; have hc := HC.out x hR; clear hF
          go_simp
          exact hK _ _ (Grow.refl _) rfl
        refine Plan.det 9 rfl (Grow.refl) ?_
        apply Exists.intro
        refine ⟨fun vs x hR hF K hK => ?_, ?_⟩
        · clear hF
          go_simp
          exact hK _ _ (Grow.refl _) rfl
        refine Plan.det 10 rfl (Grow.refl) ?_
        apply Exists.intro
        refine ⟨fun vs x hR hF K hK => ?_, ?_⟩
        · have f7 := hF 1 _ _ rfl rfl; have f8 := hF 0 _ _ rfl rfl; clear hF
          go_simp
          exact hK _ _ (Grow.refl _) rfl
        refine Plan.det 11 rfl (Grow.refl) ?_
        apply Exists.intro
        refine ⟨fun vs x hR hF K hK => ?_, ?_⟩
        · have f9 := hF 0 _ _ rfl rfl; have hc := HC.out x hR; clear hF
          go_simp
          exact hK _ _ (Grow.refl _) rfl
        refine Plan.det 12 rfl (Grow.refl) ?_
        apply Exists.intro
        refine ⟨fun vs x hR hF K hK => ?_, ?_⟩
        · have f5 := hF 5 _ _ rfl rfl; have f10 := hF 0 _ _ rfl rfl; clear hF
          go_simp
          refine (HU2.out x).mono ?_
          rintro e x1 ⟨rfl, hbe⟩
          exact ⟨_, rfl, hK _ _ hbe rfl⟩
        refine Plan.det 13 rfl (Grow.refl) ?_
        apply Exists.intro
        refine ⟨fun vs x hR hF K hK => ?_, ?_⟩
        · have f5 := hF 6 _ _ rfl rfl; have f11 := hF 0 _ _ rfl rfl; clear hF
          go_simp
          exact hK _ _ (Grow.refl _) rfl
        refine Plan.nil (fun vs x hR hF => ?_)
        have f0 := hF 12 _ _ rfl; have f1 := hF 11 _ _ rfl; have f2 := hF 10 _ _ rfl; have f3 := hF 9 _ _ rfl; have f4 := hF 8 _ _ rfl; have f5 := hF 7 _ _ rfl; have f6 := hF 6 _ _ rfl; have f7 := hF 5 _ _ rfl; have f8 := hF 4 _ _ rfl; have f9 := hF 3 _ _ rfl; have f10 := hF 2 _ _ rfl; have f11 := hF 1 _ _ rfl; have f12 := hF 0 _ _ rfl
        clear hF
        simp only [f0, f1, f2, f3, f4, f5, f6, f7, f8, f9, f10, f11, f12]
        clear f0 f1 f2 f3 f4 f5 f6 f7 f8 f9 f10 f11 f12
        simp only [List.drop_succ_cons, List.drop_zero]
        have hbx : Below wr.heap.size wr x := ⟨hR.os, hR.tape, hR.output, hR.size, hR.block⟩
        have HW2 := hid (HB0.out.trans ((HW.out.trans (hbx.mono HW.out.size)).mono HB0.out.size))
        clear HC hR hbx
        go_wp2_with fail
        all_goals (try go_ret)
        all_goals exact HPF.out _ HS.out HW2.out
    · obtain rfl : k = L.length := by omega
      have HS := hid (HAL.out.2 ⟨HLN.out, trivial, fun j h h' => HE.out j h h' h⟩)
      have HW2 := hid (HB0.out.trans (HW.out.mono HB0.out.size))
      go_wp2_with fail
      all_goals (try go_ret)
      all_goals exact HPT.out _ HS.out HW2.out
end Go.Proofs.YtjjhdddlbgdkeaaDoor
