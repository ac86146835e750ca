/- The reference's SameRe: of one tree at two places it says true. -/
import Derived.Test.YtibfnmkeghkdpaaCompose
namespace Go.Proofs.Ytibfnmkeghkdpaa
open Go.RowKit
attribute [local go_sem] gives givesUpon

theorem gives_load_agg {P : Program} {o : Oper} {a : Act} {w : World} {K : Value → World → Prop} (ty : TypeId) (x : Operand) (ho : o.op = .load ty x)
    (b f : Nat) (hx : a.eval x = .pointer (some ⟨b, f, none⟩)) (cs : List Value) (d : TypeDesc) (hc : CellsAt w b f cs)
    (hu : P.underlying ty = some d) (hd : (match d with | .struct _ | .array _ _ => true | _ => false) = true) (hi : (P.info? ty).map (·.size) = some cs.length)
    (h : K (.agg cs.toArray) w) : gives P o a w K := by
  have hl : (loadCells ⟨b, f, none⟩ cs.length).run P w = .ok cs.toArray w := run_loadCells_list (P := P) w ⟨b, f, none⟩ cs (fun j v hj => by rw [Addr.add_lit]; exact hc j v hj)
  have hrun : (loadVar ty ⟨b, f, none⟩).run P w = .ok (.agg cs.toArray) w := by
    cases hq : P.info? ty with
    | none => simp [hq] at hi
    | some i =>
      have hs : i.size = cs.length := by simpa [hq] using hi
      have hagg : (isAgg ty).run P w = .ok true w := by
        unfold isAgg
        rw [Sem.run_bind, run_underlying hu w]
        cases d <;> simp_all
      simp [loadVar, Sem.run_bind, hagg, sizeOf, typeInfo, hq, hs, hl]
  unfold gives execOp
  simp only [ho, hx, Instr.loadAt, Instr.sureAddr, Sem.run_bind, Sem.run_pure, Result.andThen_ok, hrun]
  exact h

-- def BL := [.int .i64 p.op, .int .u64 p.set.a, .int .u64 p.set.b, .int .u64 p.set.c, .int .u64 p.set.d, .int .i64 p.lo, .int .i64 p.hi, .int .i64 p.gr, .slice ad xs.length cap]
-- def BM := [.int .i64 p.op, .int .u64 p.set.a, .int .u64 p.set.b, .int .u64 p.set.c, .int .u64 p.set.d, .int .i64 p.lo, .int .i64 p.hi, .int .i64 p.gr, .slice ae xs.length cbp]
set_option maxRecDepth 100000 in
set_option maxHeartbeats 8000000 in
theorem SameRe_any (wb : World) (t : Re) : ∀ (w : World) (ca cb : List Value), t.In wb ca → t.In wb cb → Below wb.heap.size wb w → t.size ≤ 1048576 →
    Calls Try.prog 27 #[.agg ca.toArray, .agg cb.toArray] w fun e w' => e = .returned (.bool true) ∧ Below w.heap.size w w' := by
  induction t using Re.ind with
  | h p xs ih =>
    intro w ca cb hIa hIb hbw hsz
    rw [Re.In] at hIa hIb
    obtain ⟨ad, cap, rfl, hwf, hlc, hcm, hnil, hall⟩ := hIa
    obtain ⟨ae, cbp, rfl, -, hlc2, hcm2, hnil2, hall2⟩ := hIb
    rw [Re.size_mk] at hsz
    have hlen := Re.sizes_len xs
    have HIH := hid ih
    have HAL := hid hall
    have HAM := hid hall2
    have HBW := hid hbw
    have heq := eq_self p.set
    clear ih hall hall2 hwf hbw
    simp only [Pay.cells]
    go_enter Try.func27, Try.ntmps27
    go_wp2_with fail
    go_loopw [5] (fun i wr => ∃ (k : Nat), k ≤ xs.length ∧ i = .int .i64 k ∧ Hid (Row wr w.heap.size [.int .i64 p.op, .int .u64 p.set.a, .int .u64 p.set.b, .int .u64 p.set.c, .int .u64 p.set.d, .int .i64 p.lo, .int .i64 p.hi, .int .i64 p.gr, .slice ad xs.length cap] 28 ∧ Row wr (w.heap.size + 1) [.int .i64 p.op, .int .u64 p.set.a, .int .u64 p.set.b, .int .u64 p.set.c, .int .u64 p.set.d, .int .i64 p.lo, .int .i64 p.hi, .int .i64 p.gr, .slice ae xs.length cbp] 28 ∧ Below w.heap.size w wr)) (fun i _ => xs.length - (intOf i).toNat)
    case atStart =>
      exact ⟨0, by omega, rfl, (Row.new (cs := [.int .i64 p.op, .int .u64 p.set.a, .int .u64 p.set.b, .int .u64 p.set.c, .int .u64 p.set.d, .int .i64 p.lo, .int .i64 p.hi, .int .i64 p.gr, .slice ad xs.length cap]) rfl).alloc _, Row.new (cs := [.int .i64 p.op, .int .u64 p.set.a, .int .u64 p.set.b, .int .u64 p.set.c, .int .u64 p.set.d, .int .i64 p.lo, .int .i64 p.hi, .int .i64 p.gr, .slice ae xs.length cbp]) (by simp), ((Below.refl _ w).alloc (Nat.le_refl _) _).alloc (by simp) _⟩
    case round =>
      obtain ⟨k, hk, rfl, HX⟩ := hrel
      have q1 := HX.out.1.c9
      have q2 := HX.out.2.1.c9
      have hB := HX.out.1.lt
      have hB2 := HX.out.2.1.lt
      have HBL : Hid (Below wb.heap.size wb wr) := HBW.out.trans (HX.out.2.2.mono HBW.out.size)
      by_cases hlt : k < xs.length
      · obtain ⟨b, o, p', ad1, n1, cap1, rfl, HC0, HI0, hbb⟩ := HAL.out.kid HBL.out k hlt
        obtain ⟨b2, o2, p2, ad2, n2, cap2, rfl, HC2, HI2, hbb2⟩ := HAM.out.kid HBL.out k hlt
        have HC := hid (fun (x : World) (hx : Grow wr.drew x) => And.intro ((HX.out.1.drew.below hx HX.out.1.drew.lt).c9) ((HX.out.2.1.drew.below hx HX.out.2.1.drew.lt).c9))
        have HK1 := hid (fun (x : World) (hx : Grow wr.drew x) => CellsAt.below (w := wr.drew) HC0.out hx)
        have HK2 := hid (fun (x : World) (hx : Grow wr.drew x) => CellsAt.below (w := wr.drew) HC2.out hx)
        have HBX := hid (fun (x : World) (hx : Grow wr.drew x) => (HBL.out.drew.trans (hx.mono (by have := HBL.out.size; exact this)) : Below wb.heap.size wb x))
        have hsg := Re.size_get (xs := xs) (i := k) (a := xs[k]) (by simp [hlt])
        have HR0 := hid (And.intro HX.out.1 (And.intro HX.out.2.1 HX.out.2.2))
        go_wp2_with fail
        clear q1 q2
        refine wp_region_inv 12 (Grow) (by kernel_rfl) (by kernel_rfl) (Grow.refl) (fun _ _ _ => Grow.trans) ?_
        simp only [fill, dstOf, Act.put, List.take_succ_cons, List.take_zero, List.getElem?_toArray, List.getElem?_cons_zero, List.getElem?_cons_succ, Option.bind_some, List.setIfInBounds_toArray, List.set_cons_zero, List.set_cons_succ]
        refine Plan.det 1 rfl (Grow.refl) ?_
        apply Exists.intro
        refine ⟨fun vs x hR hF K hK => ?_, ?_⟩
        · clear hF
          go_simp
          exact hK _ _ (Grow.refl _) rfl
        refine Plan.det 2 rfl (Grow.refl) ?_
        apply Exists.intro
        refine ⟨fun vs x hR hF K hK => ?_, ?_⟩
        · have f0 := hF 0 _ _ rfl rfl; have hc := HC.out x hR; clear hF
          go_simp
          exact hK _ _ (Grow.refl _) rfl
        refine Plan.det 3 rfl (Grow.refl) ?_
        apply Exists.intro
        refine ⟨fun vs x hR hF K hK => ?_, ?_⟩
        · clear hF
          go_simp
          exact hK _ _ (Grow.refl _) rfl
        refine Plan.det 4 rfl (Grow.refl) ?_
        apply Exists.intro
        refine ⟨fun vs x hR hF K hK => ?_, ?_⟩
        · have f1 := hF 1 _ _ rfl rfl; have f2 := hF 0 _ _ rfl rfl; clear hF
          go_simp
          exact hK _ _ (Grow.refl _) rfl
        refine Plan.det 5 rfl (Grow.refl) ?_
        apply Exists.intro
        refine ⟨fun vs x hR hF K hK => ?_, ?_⟩
        · have f3 := hF 0 _ _ rfl rfl; have hc := HC.out x hR; clear hF
          rw [if_pos (show Region.wanted _ _ = true from rfl)]
          refine gives_load_agg 28 _ rfl b (o + k * 9) f3 _ _ (HK1.out x hR) Try.underlying28 rfl (size_re9 _ _ _ _ _ _ _ _ _) ?_
          exact hK _ _ (Grow.refl _) rfl
        refine Plan.det 6 rfl (Grow.refl) ?_
        apply Exists.intro
        refine ⟨fun vs x hR hF K hK => ?_, ?_⟩
        · clear hF
          go_simp
          exact hK _ _ (Grow.refl _) rfl
        refine Plan.det 7 rfl (Grow.refl) ?_
        apply Exists.intro
        refine ⟨fun vs x hR hF K hK => ?_, ?_⟩
        · have f5 := hF 0 _ _ rfl rfl; have hc := HC.out x hR; clear hF
          go_simp
          exact hK _ _ (Grow.refl _) rfl
        refine Plan.det 8 rfl (Grow.refl) ?_
        apply Exists.intro
        refine ⟨fun vs x hR hF K hK => ?_, ?_⟩
        · clear hF
          go_simp
          exact hK _ _ (Grow.refl _) rfl
        refine Plan.det 9 rfl (Grow.refl) ?_
        apply Exists.intro
        refine ⟨fun vs x hR hF K hK => ?_, ?_⟩
        · have f6 := hF 1 _ _ rfl rfl; have f7 := hF 0 _ _ rfl rfl; clear hF
          go_simp
          exact hK _ _ (Grow.refl _) rfl
        refine Plan.det 10 rfl (Grow.refl) ?_
        apply Exists.intro
        refine ⟨fun vs x hR hF K hK => ?_, ?_⟩
        · have f8 := hF 0 _ _ rfl rfl; have hc := HC.out x hR; clear hF
          rw [if_pos (show Region.wanted _ _ = true from rfl)]
          refine gives_load_agg 28 _ rfl b2 (o2 + k * 9) f8 _ _ (HK2.out x hR) Try.underlying28 rfl (size_re9 _ _ _ _ _ _ _ _ _) ?_
          exact hK _ _ (Grow.refl _) rfl
        refine Plan.det 11 rfl (Grow.refl) ?_
        apply Exists.intro
        refine ⟨fun vs x hR hF K hK => ?_, ?_⟩
        · have f4 := hF 5 _ _ rfl rfl; have f9 := hF 0 _ _ rfl rfl; clear hF
          go_simp
          refine (HIH.out xs[k] (by simp) x _ _ HI0.out HI2.out (HBX.out x hR) (by omega)).mono ?_
          rintro e x1 ⟨rfl, hbe⟩
          exact ⟨_, rfl, hK _ _ hbe rfl⟩
        refine Plan.det 12 rfl (Grow.refl) ?_
        apply Exists.intro
        refine ⟨fun vs x hR hF K hK => ?_, ?_⟩
        · have f10 := hF 0 _ _ rfl rfl; clear hF
          go_simp
          exact hK _ _ (Grow.refl _) rfl
        refine Plan.nil (fun vs x hR hF => ?_)
        have f0 := hF 11 _ _ rfl; have f1 := hF 10 _ _ rfl; have f2 := hF 9 _ _ rfl; have f3 := hF 8 _ _ rfl; have f4 := hF 7 _ _ rfl; have f5 := hF 6 _ _ rfl; have f6 := hF 5 _ _ rfl; have f7 := hF 4 _ _ rfl; have f8 := hF 3 _ _ rfl; have f9 := hF 2 _ _ rfl; have f10 := hF 1 _ _ rfl; have f11 := hF 0 _ _ rfl
        clear hF
        simp only [f0, f1, f2, f3, f4, f5, f6, f7, f8, f9, f10, f11]
        clear f0 f1 f2 f3 f4 f5 f6 f7 f8 f9 f10 f11
        simp only [List.drop_succ_cons, List.drop_zero]
        have HX2 := hid (And.intro (HX.out.1.drew.below hR HX.out.1.drew.lt) (And.intro (HX.out.2.1.drew.below hR HX.out.2.1.drew.lt) (HX.out.2.2.drew.trans (hR.mono HX.out.2.2.size))))
        clear hR HC
        go_wp2_with fail
        go_roundw
        case rel => exact ⟨k + 1, by omega, by go_num, HX2.out⟩
        case measure => simp [intOf]; omega
      · obtain rfl : k = xs.length := by omega
        go_wp2_with fail
        all_goals go_ret
        all_goals exact ⟨rfl, HX.out.2.2⟩
end Go.Proofs.Ytibfnmkeghkdpaa
