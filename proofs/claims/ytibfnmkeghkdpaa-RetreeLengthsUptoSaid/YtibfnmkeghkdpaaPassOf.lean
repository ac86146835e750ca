/- The reference's pass.of: the walk. -/
import Derived.Test.YtibfnmkeghkdpaaPass
import Derived.Deep.DeepCutAuto
import Derived.Deep.CutBlock
namespace Go.Proofs.Ytibfnmkeghkdpaa
open Go.RowKit
attribute [local go_sem] gives givesUpon

-- def BL := [.int .i64 p.op, .int .u64 p.set.a, .int .u64 p.set.b, .int .u64 p.set.c, .int .u64 p.set.d, .int .i64 p.lo, .int .i64 p.hi, .int .i64 p.gr, .slice ad xs.length cap]
-- def C0 := [.bool false, .int .i64 0, .int .i64 0, .int .u64 0, .int .u64 0, .int .u64 0, .int .u64 0]

/-- What the loop over the operands keeps. -/
def QAt (w : World) (PB KB nn : Nat) (p : Pay) (sl : Value) (v : Value) (l : List Facts) (g : Int → Option Facts) (wr : World) : Prop :=
  OwnR wr (w.heap.size + 2) v l ∧ PAt wr PB KB nn g ∧ Row wr w.heap.size (p.cells sl) 28 ∧ Row wr (w.heap.size + 1) [.bool false, .int .i64 0, .int .i64 0, .int .u64 0, .int .u64 0, .int .u64 0, .int .u64 0] 69 ∧ But [KB] w wr ∧ GWf g ∧ ∀ f, f ∈ l → f.wf
theorem QAt.alloc {w : World} {PB KB nn : Nat} {p : Pay} {sl v : Value} {l : List Facts} {g : Int → Option Facts} {wr : World} (h : QAt w PB KB nn p sl v l g wr) (o : Obj) : QAt w PB KB nn p sl v l g (wr.alloc o) :=
  ⟨h.1.alloc o, h.2.1.alloc o, h.2.2.1.alloc o, h.2.2.2.1.alloc o, h.2.2.2.2.1.alloc o, h.2.2.2.2.2.1, h.2.2.2.2.2.2⟩
theorem OwnR.below {w w' : World} {base : Nat} {v : Value} {l : List Facts} (h : OwnR w base v l) (hb : Below w.heap.size w w') : OwnR w' base v l :=
  World.ownsRow.kept h (row := none) ⟨hb.os, hb.tape, hb.output, hb.size, fun j hj _ => hb.block j hj⟩ (by
    cases hv : v.ownBlock with
    | none => exact .inl rfl
    | some g => exact .inr fun e => by cases e)
theorem QAt.below {w : World} {PB KB nn : Nat} {p : Pay} {sl v : Value} {l : List Facts} {g : Int → Option Facts} {wr x : World} (h : QAt w PB KB nn p sl v l g wr) (hb : Below wr.heap.size wr x) : QAt w PB KB nn p sl v l g x :=
  ⟨h.1.below hb, h.2.1.below hb, h.2.2.1.below hb h.2.2.1.lt, h.2.2.2.1.below hb h.2.2.2.1.lt, h.2.2.2.2.1.later (But.of_below' (S := [KB]) hb) (fun _i hi => .inl hi), h.2.2.2.2.2.1, h.2.2.2.2.2.2⟩

set_option maxRecDepth 100000 in
set_option maxHeartbeats 4000000 in
theorem passof_any (PB KB nn : Nat) (wb : World) (_hP : wb.heap.size ≤ PB) (hM : wb.heap.size ≤ KB) (hne : PB ≠ KB) (hnn : nn ≤ 9) (t : Re) : ∀ (w : World) (cs : List Value) (g : Int → Option Facts), t.In wb cs → Below wb.heap.size wb w → PAt w PB KB nn g → GWf g → t.typed = true → t.reps = true → t.inR nn = true → t.size ≤ 1048576 →
    Calls Try.prog 63 #[.pointer (some ⟨PB, 0, none⟩), .agg cs.toArray] w fun e w' => e = .returned (encF (t.learn g).1) ∧ But [KB] w w' ∧ PAt w' PB KB nn (t.learn g).2 := by
  induction t using Re.ind with
  | h p xs ih =>
    intro w cs g hIn hbw hmap hgw hty hrp hir hsz
    rw [Re.In] at hIn
    obtain ⟨ad, cap, rfl, hwf, hlc, hcm, hnil, hall⟩ := hIn
    rw [Re.size_mk] at hsz
    have hlen := Re.sizes_len xs
    have HIH := hid ih
    have HAL := hid hall
    have HBW := hid hbw
    have HGW := hid hgw
    have HTY := hid hty
    rw [Re.reps] at hrp
    simp only [Bool.and_eq_true, decide_eq_true_eq] at hrp
    have HRP := hid hrp
    rw [Re.inR] at hir
    simp only [Bool.and_eq_true, decide_eq_true_eq] at hir
    have HIR := hid hir
    clear hrp hir
    have HMAP := hid hmap
    have hMw := hmap.2.lt
    have hPw := hmap.1.lt
    clear ih hall hwf hbw hgw hty hmap
    simp only [Pay.cells]
    go_enter Try.func63, Try.ntmps63
    go_upto_block 0 with fail
    go_cut [5] (fun v wx => ∃ a n c, v = .slice a n c ∧ QAt w PB KB nn p (.slice ad xs.length cap) (.slice a n c) (Re.learns xs g).1 (Re.learns xs g).2 wx)
    case first =>
      go_wp2_with fail
      go_loopw [5, 6] (fun v i wr => ∃ (k : Nat) (a : Option Addr) (n c : Nat), k ≤ xs.length ∧ i = .int .i64 k ∧ v = .slice a n c ∧ Hid (QAt w PB KB nn p (.slice ad xs.length cap) (.slice a n c) (Re.learns (xs.take k) g).1 (Re.learns (xs.take k) g).2 wr)) (fun _ i _ => xs.length - (intOf i).toNat)
      case atStart =>
        refine ⟨0, none, 0, 0, by omega, rfl, rfl, World.ownsRow_nil _ _ _ _, ((HMAP.out.alloc _).alloc _), (Row.new (cs := [.int .i64 p.op, .int .u64 p.set.a, .int .u64 p.set.b, .int .u64 p.set.c, .int .u64 p.set.d, .int .i64 p.lo, .int .i64 p.hi, .int .i64 p.gr, .slice ad xs.length cap]) rfl).alloc _, Row.new (cs := [.bool false, .int .i64 0, .int .i64 0, .int .u64 0, .int .u64 0, .int .u64 0, .int .u64 0]) (by simp), ((But.refl _ w).alloc _).alloc _, HGW.out, fun f hf => absurd hf (by simp [Re.learns])⟩
      case round =>
        obtain ⟨k, a, n, c, hk, rfl, rfl, HX⟩ := hrel
        have q1 := HX.out.2.2.1.c9
        have hB := HX.out.2.2.1.lt
        have HBL := hid (HBW.out.trans (HX.out.2.2.2.2.1.below HBW.out.size (fun j hj => by simp at hj; omega)))
        by_cases hlt : k < xs.length
        · obtain ⟨b, o, p', ad', n', cap', rfl, HC, HI0, hbb⟩ := HAL.out.kid HBL.out k hlt
          go_wp2_with (first | (with_reducible (refine wpList_load_agg rfl 28 _ rfl b (o + (k * 9)) rfl _ _ HC.out Try.underlying28 rfl (size_re9 _ _ _ _ _ _ _ _ _) ?_)))
          have hsg := Re.size_get (xs := xs) (i := k) (a := xs[k]) (by simp [hlt])
          have hgk := Re.learn_wf xs[k] wb _ _ HI0.out HX.out.2.2.2.2.2.1
          have HGK := hid hgk
          have HTK := hid (Re.learns_take xs k xs[k] g (by simp [hlt]))
          refine (HIH.out xs[k] (by simp) _ _ _ HI0.out HBL.out HX.out.2.1 HX.out.2.2.2.2.2.1 (Re.typed_kid HTY.out k hlt) (Re.repss_get xs HRP.out.2 k hlt) (Re.inRs_get xs HIR.out.2 k hlt) (by omega)).mono ?_
          rintro e w2 ⟨rfl, hb2, hm2⟩
          have hb3 := hb2
          have HB3 := hid hb3
          have HM2 := hid hm2
          have HO2 := hid (HX.out.1.but hb3 (by omega))
          have hll := Re.learns_len (xs.take k) g
          rw [List.length_take, Nat.min_eq_left (by omega)] at hll
          have HLL := hid hll
          obtain ⟨i0, hi, hz0, hz1, hz2⟩ := info_parts info_rfacts
          have hw2 : w.heap.size + 2 ≤ w2.heap.size := by have h1 := HX.out.2.2.2.1.lt; have h2 := hb3.size; omega
          generalize hF : (xs[k].learn (Re.learns (xs.take k) g).2).1 = F at *
          have HF := hid hF
          clear hb2 hm2 hb3 hF hgk q1 hll
          unfold encF Facts.cells
          go_wp2_with (at_builtin; refine wpList_append_row rfl _ _ 87 rfl (w.heap.size + 2) 69 i0 (.agg #[.bool false, .int .i64 0, .int .i64 0, .int .u64 0, .int .u64 0, .int .u64 0, .int .u64 0]) 7 56 Try.underlying87 hi hz0 hz1 hz2 rfl (by decide) _ _ _ rfl (HO2.out.alloc _) ⟨w2.heap.size, 0, none⟩ 1 1 F.cells rfl rfl ?c1 ?c2 ?c3 ?c4 ?c5 (by decide) ?_)
          case c1 =>
            intro j u hj
            rw [Addr.add_lit, Nat.zero_add]
            exact (Row.new (w := w2) (cs := F.cells) (T := 69) rfl).cell j ▸ hj
          case c2 => intro u hu; simp [Facts.cells] at hu; rcases hu with rfl | rfl | rfl | rfl | rfl | rfl | rfl <;> rfl
          case c3 => have := HLL.out; unfold maxLen; omega
          case c4 => have := HLL.out; omega
          case c5 => simp; omega
          · intro a2 c2 w3 hown' hgrow hnw
            have hv : ∀ g, (Value.slice a n c).ownBlock = some g → w.heap.size + 2 ≤ g := fun g hg => (HO2.out.lt g hg).1
            have hbl : ∀ j, j < w.heap.size + 2 → w3.heap[j]? = w2.heap[j]? := fun j hj => (grown_block hgrow hv j hj (by simp; omega)).trans (Below.heap_alloc _ _ _ (by omega))
            have hown2 : OwnR w3 (w.heap.size + 2) (.slice a2 ((Re.learns (xs.take k) g).1.length + 1) c2) ((Re.learns (xs.take k) g).1 ++ [F]) := by
              unfold OwnR
              simpa [List.flatMap_append] using hown'
            have hL : QAt w PB KB nn p (.slice (some ⟨b, o, none⟩) xs.length cap) (.slice a2 ((Re.learns (xs.take k) g).1.length + 1) c2) (Re.learns (xs.take (k + 1)) g).1 (Re.learns (xs.take (k + 1)) g).2 w3 := by
              rw [HTK.out]
              refine ⟨hown2, ⟨(hbl PB (by omega)).trans HM2.out.1, (hbl KB (by omega)).trans HM2.out.2⟩, (hbl _ (by omega)).trans (HX.out.2.2.1.but HB3.out (by simp; omega)), (hbl _ (by omega)).trans (HX.out.2.2.2.1.but HB3.out (by simp; omega)), ?_, HGK.out.2, ?_⟩
              · refine ⟨hgrow.os.trans (HB3.out.os.trans HX.out.2.2.2.2.1.os), hgrow.tape.trans (HB3.out.tape.trans HX.out.2.2.2.2.1.tape), hgrow.output.trans (HB3.out.output.trans HX.out.2.2.2.2.1.output), by have := hgrow.size; simp at this; omega, fun j hj hn => (hbl j (by omega)).trans ((HB3.out.block j (by have := HX.out.2.2.2.2.1.size; omega) hn).trans (HX.out.2.2.2.2.1.block j hj hn))⟩
              · intro f hf
                rcases List.mem_append.1 hf with hf | hf
                · exact HX.out.2.2.2.2.2.2 f hf
                · rw [List.mem_singleton.1 hf]; exact HGK.out.1
            have HL := hid hL
            clear hL hown2 hbl hv hown' hgrow hnw
            go_wp2_with fail
            go_roundw
            case rel => exact ⟨k + 1, a2, _, c2, by omega, by go_num, rfl, HL.out⟩
            case measure => simp [intOf]; omega
        · obtain rfl : k = xs.length := by omega
          go_wp2_with fail
          go_meet
          have h := HX.out
          rw [List.take_length] at h
          exact ⟨a, n, c, rfl, h⟩
    case rest =>
      obtain ⟨a, n, c, rfl, hX⟩ := hcut
      have HX := hid hX
      have q1 := hX.2.2.1.c9
      have q2 := hX.2.2.2.1.c7f
      have z1 := hX.2.2.1.lt
      have z2 := hX.2.2.2.1.lt
      have HBX := hid hX.2.2.2.2.1
      have HLE := hid (show (Re.mk p xs).learn g = p.learn (Re.learns xs g).1 (Re.learns xs g).2 by rw [Re.learn])
      have hMB : KB < w.heap.size + 1 := by omega
      have HGM : Hid (PAt wc PB KB nn (Re.learns xs g).2) := HX.out.2.1
      clear hX
      by_cases o2 : p.op = 2
      · skip
        have d2 : (p.op == 2) = true := by simpa using o2
        have hl : p.learn (Re.learns xs g).1 (Re.learns xs g).2 = (⟨false, 1, 1, p.set⟩, (Re.learns xs g).2) := by unfold Pay.learn; rw [if_pos o2]
        have HL := hid hl
        clear o2 hl
        go_wp2_with fail
        refine ret_row 4 69 rfl (w.heap.size + 1) rfl [.bool false, .int .i64 1, .int .i64 1, .int .u64 p.set.a, .int .u64 p.set.b, .int .u64 p.set.c, .int .u64 p.set.d] (CellsAt.of_row (T := 69) (HX.out.2.2.2.1.set7 _ _ _ _ _ _ _)) _ Try.underlying69 rfl (size_rfacts _ _ _ _ _ _ _) rfl ?_
        rw [HLE.out, HL.out]
        exact ⟨rfl, But.set7 HBX.out (by omega) _ _ _ _ _ _ _, HX.out.2.1.other7 (by omega) (by omega) _ _ _ _ _ _ _⟩
      by_cases o9 : p.op = 9
      · skip
        have d2 : (p.op == 2) = false := by simp [o9]
        have d3 : (p.op == 3) = false := by simp [o9]
        have d4 : (p.op == 4) = false := by simp [o9]
        have d5 : (p.op == 5) = false := by simp [o9]
        have d6 : (p.op == 6) = false := by simp [o9]
        have d9 : (p.op == 9) = true := by simpa using o9
        have hl : p.learn (Re.learns xs g).1 (Re.learns xs g).2 = (((Re.learns xs g).2 p.gr).getD Facts.zero, (Re.learns xs g).2) := by unfold Pay.learn; rw [if_neg o2, if_neg (by omega), if_neg (by omega), if_neg (by omega), if_neg (by omega), if_pos o9]
        have hgr := HIR.out.1 (.inr o9)
        obtain ⟨j, hj⟩ : ∃ j : Nat, p.gr = (j : Int) + 1 := ⟨(p.gr - 1).toNat, by omega⟩
        have hjn : j < nn := by omega
        rw [hj] at hl q1
        have hjc := HGM.out.get j hjn
        generalize ((Re.learns xs g).2 ((j : Int) + 1)).getD Facts.zero = F at hl hjc
        have HL := hid hl
        have hkl : (kn (Re.learns xs g).2 nn).length = nn := kn_len _ _
        have HCE := hid hjc
        have HC : Hid (∀ x, Below wc.heap.size wc.drew x → (x.cell? ⟨w.heap.size, 7, none⟩ = some (.int .i64 ((j : Int) + 1))) ∧ (x.cell? ⟨PB, 0, none⟩ = some (.slice (some ⟨KB, 0, none⟩) nn nn)) ∧ (x.cell? ⟨KB, j * 7, none⟩ = some (.bool F.null) ∧ x.cell? ⟨KB, j * 7 + 1, none⟩ = some (.int .i64 F.least) ∧ x.cell? ⟨KB, j * 7 + 2, none⟩ = some (.int .i64 F.most) ∧ x.cell? ⟨KB, j * 7 + 3, none⟩ = some (.int .u64 F.first.a) ∧ x.cell? ⟨KB, j * 7 + 4, none⟩ = some (.int .u64 F.first.b) ∧ x.cell? ⟨KB, j * 7 + 5, none⟩ = some (.int .u64 F.first.c) ∧ x.cell? ⟨KB, j * 7 + 6, none⟩ = some (.int .u64 F.first.d))) := fun x hx =>
          ⟨by rw [← hj]; exact (HX.out.2.2.1.drew.below hx z1).cell 7, (HGM.out.1.drew.below hx HGM.out.1.lt).cell 0, (CellsAt.below (w := wc.drew) HCE.out hx).c7⟩
        clear o2 o9 hl hjc hkl hgr
        have HJ := hid hj
        clear hj
        go_wp2_with fail
        refine wp_region_inv 9 (Below wc.heap.size) (by kernel_rfl) (by kernel_rfl) (Below.refl _) (fun _ _ _ => Below.trans) ?_
        simp only [fill, dstOf, Act.put, List.take_succ_cons, List.take_zero, List.getElem?_toArray, List.getElem?_cons_zero, List.getElem?_cons_succ, Option.bind_some, List.setIfInBounds_toArray, List.set_cons_zero, List.set_cons_succ]
        refine Plan.det 1 rfl (Below.refl _) ?_
        apply Exists.intro
        refine ⟨fun vs x hR hF K hK => ?_, ?_⟩
        · clear hF
          go_simp
          exact hK _ _ (Below.refl _ _) rfl
        refine Plan.det 2 rfl (Below.refl _) ?_
        apply Exists.intro
        refine ⟨fun vs x hR hF K hK => ?_, ?_⟩
        · have f0 := hF 0 _ _ rfl rfl; clear hF
          go_simp
          exact hK _ _ (Below.refl _ _) rfl
        refine Plan.det 3 rfl (Below.refl _) ?_
        apply Exists.intro
        refine ⟨fun vs x hR hF K hK => ?_, ?_⟩
        · have f1 := hF 0 _ _ rfl rfl; clear hF
          go_simp
          exact hK _ _ (Below.refl _ _) rfl
        refine Plan.det 4 rfl (Below.refl _) ?_
        apply Exists.intro
        refine ⟨fun vs x hR hF K hK => ?_, ?_⟩
        · have f2 := hF 0 _ _ rfl rfl; have hc := HC.out x hR; clear hF
          go_simp
          exact hK _ _ (Below.refl _ _) rfl
        refine Plan.det 5 rfl (Below.refl _) ?_
        apply Exists.intro
        refine ⟨fun vs x hR hF K hK => ?_, ?_⟩
        · clear hF
          go_simp
          exact hK _ _ (Below.refl _ _) rfl
        refine Plan.det 6 rfl (Below.refl _) ?_
        apply Exists.intro
        refine ⟨fun vs x hR hF K hK => ?_, ?_⟩
        · have f4 := hF 0 _ _ rfl rfl; have hc := HC.out x hR; clear hF
          go_simp
          exact hK _ _ (Below.refl _ _) rfl
        refine Plan.det 7 rfl (Below.refl _) ?_
        apply Exists.intro
        refine ⟨fun vs x hR hF K hK => ?_, ?_⟩
        · have f5 := hF 0 _ _ rfl rfl; clear hF
          go_simp
          rw [IntWalk.i64_in (j : Int) (by omega)]
          exact hK _ _ (Below.refl _ _) rfl
        refine Plan.det 8 rfl (Below.refl _) ?_
        apply Exists.intro
        refine ⟨fun vs x hR hF K hK => ?_, ?_⟩
        · have f3 := hF 3 _ _ rfl rfl; have f6 := hF 0 _ _ rfl rfl; clear hF
          go_simp
          exact hK _ _ (Below.refl _ _) rfl
        refine Plan.det 9 rfl (Below.refl _) ?_
        apply Exists.intro
        refine ⟨fun vs x hR hF K hK => ?_, ?_⟩
        · have f7 := hF 0 _ _ rfl rfl; have hc := HC.out x hR; clear hF
          go_simp
          exact hK _ _ (Below.refl _ _) rfl
        refine Plan.nil (fun vs x hR hF => ?_)
        have f0 := hF 8 _ _ rfl; have f1 := hF 7 _ _ rfl; have f2 := hF 6 _ _ rfl; have f3 := hF 5 _ _ rfl; have f4 := hF 4 _ _ rfl; have f5 := hF 3 _ _ rfl; have f6 := hF 2 _ _ rfl; have f7 := hF 1 _ _ rfl; have f8 := hF 0 _ _ rfl
        clear hF
        simp only [f0, f1, f2, f3, f4, f5, f6, f7, f8]
        clear f0 f1 f2 f3 f4 f5 f6 f7 f8
        simp only [List.drop_succ_cons, List.drop_zero]
        have hrs := HX.out.2.2.2.1.drew.below hR z2
        have HRS := hid hrs
        have q5 := hrs.c7f
        have z5 := hrs.lt
        have HBX2 : Hid (But [KB] w x) := HBX.out.later ((But.refl _ wc).drew.trans (But.of_below' hR)) (fun i hi => .inl hi)
        have HGX : Hid (PAt x PB KB nn (Re.learns xs g).2) := HGM.out.below ((Below.refl _ wc).drew.trans hR)
        clear hR HC q1 q2 hrs
        go_wp2_with fail
        refine ret_row 4 69 rfl (w.heap.size + 1) rfl F.cells (CellsAt.of_row (T := 69) (HRS.out.set7 _ _ _ _ _ _ _)) _ Try.underlying69 rfl (size_rfacts _ _ _ _ _ _ _) rfl ?_
        rw [HLE.out, HL.out]
        exact ⟨rfl, But.set7 HBX2.out (by omega) _ _ _ _ _ _ _, HGX.out.other7 (by omega) (by omega) _ _ _ _ _ _ _⟩
      by_cases o6 : p.op = 6
      · skip
        have d2 : (p.op == 2) = false := by simp [o6]
        have d3 : (p.op == 3) = false := by simp [o6]
        have d4 : (p.op == 4) = false := by simp [o6]
        have d5 : (p.op == 5) = false := by simp [o6]
        have d6 : (p.op == 6) = true := by simpa using o6
        obtain ⟨F, hF⟩ := Re.learns_one HTY.out (.inr o6) g
        have hl : p.learn (Re.learns xs g).1 (Re.learns xs g).2 = (F, fun k => if k = p.gr then some F else (Re.learns xs g).2 k) := by unfold Pay.learn; rw [if_neg o2, if_neg (by omega), if_neg (by omega), if_neg (by omega), if_pos o6, hF]; rfl
        have hgr := HIR.out.1 (.inl o6)
        obtain ⟨j, hj⟩ : ∃ j : Nat, p.gr = (j : Int) + 1 := ⟨(p.gr - 1).toNat, by omega⟩
        have hjn : j < nn := by omega
        rw [hj] at hl q1
        have HL := hid hl
        have HO1 : OwnR wc (w.heap.size + 2) (.slice a n c) (Re.learns xs g).1 := HX.out.1
        obtain ⟨gb, cc, hsl, hgb1, hgb2, hce⟩ := HO1.elem 0 F (by rw [hF]; rfl)
        rw [hF] at hsl
        injection hsl with e1 e2 e3
        subst e1 e2 e3
        have HCE := hid hce
        have HC : Hid (∀ x, Below wc.heap.size wc.drew x → (x.cell? ⟨w.heap.size, 7, none⟩ = some (.int .i64 ((j : Int) + 1))) ∧ (x.cell? ⟨PB, 0, none⟩ = some (.slice (some ⟨KB, 0, none⟩) nn nn)) ∧ (x.cell? ⟨gb, 0, none⟩ = some (.bool F.null) ∧ x.cell? ⟨gb, 1, none⟩ = some (.int .i64 F.least) ∧ x.cell? ⟨gb, 2, none⟩ = some (.int .i64 F.most) ∧ x.cell? ⟨gb, 3, none⟩ = some (.int .u64 F.first.a) ∧ x.cell? ⟨gb, 4, none⟩ = some (.int .u64 F.first.b) ∧ x.cell? ⟨gb, 5, none⟩ = some (.int .u64 F.first.c) ∧ x.cell? ⟨gb, 6, none⟩ = some (.int .u64 F.first.d))) := fun x hx =>
          ⟨by rw [← hj]; exact (HX.out.2.2.1.drew.below hx z1).cell 7, (HGM.out.1.drew.below hx HGM.out.1.lt).cell 0, by have := (CellsAt.below (w := wc.drew) HCE.out hx).c7; rw [Nat.zero_mul] at this; exact this⟩
        clear o2 o6 hl hce HO1 hF hgr
        have HJ := hid hj
        clear hj
        have hgK : gb ≠ KB := by omega
        have hKg : KB ≠ gb := by omega
        go_wp2_with fail
        refine wp_region_inv 11 (Below wc.heap.size) (by kernel_rfl) (by kernel_rfl) (Below.refl _) (fun _ _ _ => Below.trans) ?_
        simp only [fill, dstOf, Act.put, List.take_succ_cons, List.take_zero, List.getElem?_toArray, List.getElem?_cons_zero, List.getElem?_cons_succ, Option.bind_some, List.setIfInBounds_toArray, List.set_cons_zero, List.set_cons_succ]
        refine Plan.det 1 rfl (Below.refl _) ?_
        apply Exists.intro
        refine ⟨fun vs x hR hF K hK => ?_, ?_⟩
        · clear hF
          go_simp
          exact hK _ _ (Below.refl _ _) rfl
        refine Plan.det 2 rfl (Below.refl _) ?_
        apply Exists.intro
        refine ⟨fun vs x hR hF K hK => ?_, ?_⟩
        · have f0 := hF 0 _ _ rfl rfl; clear hF
          go_simp
          exact hK _ _ (Below.refl _ _) rfl
        refine Plan.det 3 rfl (Below.refl _) ?_
        apply Exists.intro
        refine ⟨fun vs x hR hF K hK => ?_, ?_⟩
        · have f1 := hF 0 _ _ rfl rfl; clear hF
          go_simp
          exact hK _ _ (Below.refl _ _) rfl
        refine Plan.det 4 rfl (Below.refl _) ?_
        apply Exists.intro
        refine ⟨fun vs x hR hF K hK => ?_, ?_⟩
        · have f2 := hF 0 _ _ rfl rfl; have hc := HC.out x hR; clear hF
          go_simp
          exact hK _ _ (Below.refl _ _) rfl
        refine Plan.det 5 rfl (Below.refl _) ?_
        apply Exists.intro
        refine ⟨fun vs x hR hF K hK => ?_, ?_⟩
        · clear hF
          go_simp
          exact hK _ _ (Below.refl _ _) rfl
        refine Plan.det 6 rfl (Below.refl _) ?_
        apply Exists.intro
        refine ⟨fun vs x hR hF K hK => ?_, ?_⟩
        · have f4 := hF 0 _ _ rfl rfl; have hc := HC.out x hR; clear hF
          go_simp
          exact hK _ _ (Below.refl _ _) rfl
        refine Plan.det 7 rfl (Below.refl _) ?_
        apply Exists.intro
        refine ⟨fun vs x hR hF K hK => ?_, ?_⟩
        · have f5 := hF 0 _ _ rfl rfl; clear hF
          go_simp
          rw [IntWalk.i64_in (j : Int) (by omega)]
          exact hK _ _ (Below.refl _ _) rfl
        refine Plan.det 8 rfl (Below.refl _) ?_
        apply Exists.intro
        refine ⟨fun vs x hR hF K hK => ?_, ?_⟩
        · clear hF
          go_simp
          exact hK _ _ (Below.refl _ _) rfl
        refine Plan.det 9 rfl (Below.refl _) ?_
        apply Exists.intro
        refine ⟨fun vs x hR hF K hK => ?_, ?_⟩
        · have f7 := hF 0 _ _ rfl rfl; clear hF
          go_simp
          exact hK _ _ (Below.refl _ _) rfl
        refine Plan.det 10 rfl (Below.refl _) ?_
        apply Exists.intro
        refine ⟨fun vs x hR hF K hK => ?_, ?_⟩
        · have f8 := hF 0 _ _ rfl rfl; have hc := HC.out x hR; clear hF
          go_simp
          exact hK _ _ (Below.refl _ _) rfl
        refine Plan.det 11 rfl (Below.refl _) ?_
        apply Exists.intro
        refine ⟨fun vs x hR hF K hK => ?_, ?_⟩
        · have f0 := hF 9 _ _ rfl rfl; have f1 := hF 8 _ _ rfl rfl; have f2 := hF 7 _ _ rfl rfl; have f3 := hF 6 _ _ rfl rfl; have f4 := hF 5 _ _ rfl rfl; have f5 := hF 4 _ _ rfl rfl; have f6 := hF 3 _ _ rfl rfl; have f7 := hF 2 _ _ rfl rfl; have f8 := hF 1 _ _ rfl rfl; have f9 := hF 0 _ _ rfl rfl; clear hF
          go_simp
          exact hK _ _ (Below.refl _ _) rfl
        refine Plan.nil (fun vs x hR hF => ?_)
        have f0 := hF 10 _ _ rfl; have f1 := hF 9 _ _ rfl; have f2 := hF 8 _ _ rfl; have f3 := hF 7 _ _ rfl; have f4 := hF 6 _ _ rfl; have f5 := hF 5 _ _ rfl; have f6 := hF 4 _ _ rfl; have f7 := hF 3 _ _ rfl; have f8 := hF 2 _ _ rfl; have f9 := hF 1 _ _ rfl; have f10 := hF 0 _ _ rfl
        clear hF
        simp only [f0, f1, f2, f3, f4, f5, f6, f7, f8, f9, f10]
        clear f0 f1 f2 f3 f4 f5 f6 f7 f8 f9 f10
        simp only [List.drop_succ_cons, List.drop_zero]
        have HGX : Hid (PAt x PB KB nn (Re.learns xs g).2) := HGM.out.below ((Below.refl _ wc).drew.trans hR)
        have HRS := hid (HX.out.2.2.2.1.drew.below hR z2)
        have HBX2 : Hid (But [KB] w x) := HBX.out.later ((But.refl _ wc).drew.trans (But.of_below' hR)) (fun i hi => .inl hi)
        have HCX := hid (CellsAt.below (w := wc.drew) HCE.out hR)
        have qk := (HGX.out.get j hjn).c7
        have fk : ∀ i, x.frozen? ⟨KB, i, none⟩ = false := fun i => HGX.out.2.free i
        clear hR HC q1 q2
        go_upto_region 20 with fail
        have s1 := HGX.out.put hne j hjn F
        have s2 := (((((((But.refl [KB] x).setCell (p := ⟨KB, j * 7, none⟩) (.inl (by simp)) (.bool F.null)).setCell (p := ⟨KB, j * 7 + 1, none⟩) (.inl (by simp)) (.int .i64 F.least)).setCell (p := ⟨KB, j * 7 + 2, none⟩) (.inl (by simp)) (.int .i64 F.most)).setCell (p := ⟨KB, j * 7 + 3, none⟩) (.inl (by simp)) (.int .u64 F.first.a)).setCell (p := ⟨KB, j * 7 + 4, none⟩) (.inl (by simp)) (.int .u64 F.first.b)).setCell (p := ⟨KB, j * 7 + 5, none⟩) (.inl (by simp)) (.int .u64 F.first.c)).setCell (p := ⟨KB, j * 7 + 6, none⟩) (.inl (by simp)) (.int .u64 F.first.d)
        generalize (((((((x.setCell ⟨KB, j * 7, none⟩ (.bool F.null)).setCell ⟨KB, j * 7 + 1, none⟩ (.int .i64 F.least)).setCell ⟨KB, j * 7 + 2, none⟩ (.int .i64 F.most)).setCell ⟨KB, j * 7 + 3, none⟩ (.int .u64 F.first.a)).setCell ⟨KB, j * 7 + 4, none⟩ (.int .u64 F.first.b)).setCell ⟨KB, j * 7 + 5, none⟩ (.int .u64 F.first.c)).setCell ⟨KB, j * 7 + 6, none⟩ (.int .u64 F.first.d)) = y at s1 s2 ⊢
        have HS1 := hid s1
        have HROW := hid (HRS.out.but s2 (by simp; omega))
        have hcl := HCX.out.but s2 (by simp; omega)
        have HBY : Hid (But [KB] w y) := HBX2.out.later s2 (fun i hi => .inl hi)
        have q4 := HROW.out.c7f
        have z4 := HROW.out.lt
        have q5 := hcl.c7
        rw [Nat.zero_mul] at q5
        clear s1 s2 hcl qk fk
        go_wp2_with fail
        refine ret_row 4 69 rfl (w.heap.size + 1) rfl F.cells (CellsAt.of_row (T := 69) (HROW.out.set7 _ _ _ _ _ _ _)) _ Try.underlying69 rfl (size_rfacts _ _ _ _ _ _ _) rfl ?_
        rw [HLE.out, HL.out]
        exact ⟨rfl, But.set7 HBY.out (by omega) _ _ _ _ _ _ _, HS1.out.other7 (by omega) (by omega) _ _ _ _ _ _ _⟩
      by_cases o5 : p.op = 5
      · skip
        have d2 : (p.op == 2) = false := by simp [o5]
        have d3 : (p.op == 3) = false := by simp [o5]
        have d4 : (p.op == 4) = false := by simp [o5]
        have d5 : (p.op == 5) = true := by simpa using o5
        obtain ⟨F, hF⟩ := Re.learns_one HTY.out (.inl o5) g
        have hl : p.learn (Re.learns xs g).1 (Re.learns xs g).2 = (F.rep p.lo p.hi, (Re.learns xs g).2) := by unfold Pay.learn; rw [if_neg o2, if_neg (by omega), if_neg (by omega), if_pos o5, hF]; rfl
        have HL := hid hl
        have hFw : F.wf := HX.out.2.2.2.2.2.2 F (by rw [hF]; simp)
        have HT1 := hid (fun x => timesRef_any F.least p.lo x hFw.least (HRP.out.1 o5).1)
        have HT2 := hid (fun x => timesRef_any F.most p.hi x hFw.most (HRP.out.1 o5).2)
        have HO1 : OwnR wc (w.heap.size + 2) (.slice a n c) (Re.learns xs g).1 := HX.out.1
        obtain ⟨gb, cc, hsl, hgb1, hgb2, hce⟩ := HO1.elem 0 F (by rw [hF]; rfl)
        rw [hF] at hsl
        injection hsl with e1 e2 e3
        subst e1 e2 e3
        have HCE := hid hce
        have HC : Hid (∀ x, Grow wc.drew x → (x.cell? ⟨w.heap.size, 5, none⟩ = some (.int .i64 p.lo) ∧ x.cell? ⟨w.heap.size, 6, none⟩ = some (.int .i64 p.hi)) ∧ (x.cell? ⟨gb, 0, none⟩ = some (.bool F.null) ∧ x.cell? ⟨gb, 1, none⟩ = some (.int .i64 F.least) ∧ x.cell? ⟨gb, 2, none⟩ = some (.int .i64 F.most) ∧ x.cell? ⟨gb, 3, none⟩ = some (.int .u64 F.first.a) ∧ x.cell? ⟨gb, 4, none⟩ = some (.int .u64 F.first.b) ∧ x.cell? ⟨gb, 5, none⟩ = some (.int .u64 F.first.c) ∧ x.cell? ⟨gb, 6, none⟩ = some (.int .u64 F.first.d))) := fun x hx =>
          ⟨⟨(HX.out.2.2.1.drew.below hx z1).cell 5, (HX.out.2.2.1.drew.below hx z1).cell 6⟩, by have := (CellsAt.below (w := wc.drew) HCE.out hx).c7; rw [Nat.zero_mul] at this; exact this⟩
        clear o2 o5 hl hce HO1 hF hFw
        rcases (show (p.lo == 0) = true ∨ (p.lo == 0) = false by cases (p.lo == 0) <;> simp) with dlo | dlo
        · have HLO := hid dlo
          go_wp2_with fail
          refine wp_region_inv 25 (Grow) (by kernel_rfl) (by kernel_rfl) (Grow.refl) (fun _ _ _ => Grow.trans) ?_
          simp only [fill, dstOf, Act.put, List.take_succ_cons, List.take_zero, List.getElem?_toArray, List.getElem?_cons_zero, List.getElem?_cons_succ, Option.bind_some, List.setIfInBounds_toArray, List.set_cons_zero, List.set_cons_succ]
          refine Plan.det 1 rfl (Grow.refl) ?_
          apply Exists.intro
          refine ⟨fun vs x hR hF K hK => ?_, ?_⟩
          · clear hF
            go_simp
            exact hK _ _ (Grow.refl _) rfl
          refine Plan.det 2 rfl (Grow.refl) ?_
          apply Exists.intro
          refine ⟨fun vs x hR hF K hK => ?_, ?_⟩
          · have f0 := hF 0 _ _ rfl rfl; have hc := HC.out x hR; clear hF
            go_simp
            exact hK _ _ (Grow.refl _) rfl
          refine Plan.det 3 rfl (Grow.refl) ?_
          apply Exists.intro
          refine ⟨fun vs x hR hF K hK => ?_, ?_⟩
          · have f1 := hF 0 _ _ rfl rfl; clear hF
            go_simp
            exact hK _ _ (Grow.refl _) rfl
          refine Plan.det 4 rfl (Grow.refl) ?_
          apply Exists.intro
          refine ⟨fun vs x hR hF K hK => ?_, ?_⟩
          · have f2 := hF 0 _ _ rfl rfl; clear hF
            go_simp
            exact hK _ _ (Grow.refl _) rfl
          refine Plan.det 5 rfl (Grow.refl) ?_
          apply Exists.intro
          refine ⟨fun vs x hR hF K hK => ?_, ?_⟩
          · have f3 := hF 0 _ _ rfl rfl; clear hF
            go_simp
            exact hK _ _ (Grow.refl _) rfl
          refine Plan.det 6 rfl (Grow.refl) ?_
          apply Exists.intro
          refine ⟨fun vs x hR hF K hK => ?_, ?_⟩
          · have f3 := hF 1 _ _ rfl rfl; have f4 := hF 0 _ _ rfl rfl; clear hF
            go_simp
            exact hK _ _ (Grow.refl _) rfl
          refine Plan.det 7 rfl (Grow.refl) ?_
          apply Exists.intro
          refine ⟨fun vs x hR hF K hK => ?_, ?_⟩
          · have f3 := hF 2 _ _ rfl rfl; have f5 := hF 0 _ _ rfl rfl; clear hF
            go_simp
            exact hK _ _ (Grow.refl _) rfl
          refine Plan.det 8 rfl (Grow.refl) ?_
          apply Exists.intro
          refine ⟨fun vs x hR hF K hK => ?_, ?_⟩
          · have f3 := hF 3 _ _ rfl rfl; have f6 := hF 0 _ _ rfl rfl; have hc := HC.out x hR; clear hF
            go_simp
            exact hK _ _ (Grow.refl _) rfl
          refine Plan.det 9 rfl (Grow.refl) ?_
          apply Exists.intro
          refine ⟨fun vs x hR hF K hK => ?_, ?_⟩
          · have f3 := hF 4 _ _ rfl rfl; have f7 := hF 0 _ _ rfl rfl; clear hF
            go_simp
            exact hK _ _ (Grow.refl _) rfl
          refine Plan.det 10 rfl (Grow.refl) ?_
          apply Exists.intro
          refine ⟨fun vs x hR hF K hK => ?_, ?_⟩
          · clear hF
            go_simp
            exact hK _ _ (Grow.refl _) rfl
          refine Plan.det 11 rfl (Grow.refl) ?_
          apply Exists.intro
          refine ⟨fun vs x hR hF K hK => ?_, ?_⟩
          · have f9 := hF 0 _ _ rfl rfl; clear hF
            go_simp
            exact hK _ _ (Grow.refl _) rfl
          refine Plan.det 12 rfl (Grow.refl) ?_
          apply Exists.intro
          refine ⟨fun vs x hR hF K hK => ?_, ?_⟩
          · have f10 := hF 0 _ _ rfl rfl; clear hF
            go_simp
            exact hK _ _ (Grow.refl _) rfl
          refine Plan.det 13 rfl (Grow.refl) ?_
          apply Exists.intro
          refine ⟨fun vs x hR hF K hK => ?_, ?_⟩
          · have f11 := hF 0 _ _ rfl rfl; have hc := HC.out x hR; clear hF
            go_simp
            exact hK _ _ (Grow.refl _) rfl
          refine Plan.det 14 rfl (Grow.refl) ?_
          apply Exists.intro
          refine ⟨fun vs x hR hF K hK => ?_, ?_⟩
          · clear hF
            go_simp
            exact hK _ _ (Grow.refl _) rfl
          refine Plan.det 15 rfl (Grow.refl) ?_
          apply Exists.intro
          refine ⟨fun vs x hR hF K hK => ?_, ?_⟩
          · have f13 := hF 0 _ _ rfl rfl; have hc := HC.out x hR; clear hF
            go_simp
            exact hK _ _ (Grow.refl _) rfl
          refine Plan.det 16 rfl (Grow.refl) ?_
          apply Exists.intro
          refine ⟨fun vs x hR hF K hK => ?_, ?_⟩
          · have f3 := hF 11 _ _ rfl rfl; have f12 := hF 2 _ _ rfl rfl; have f14 := hF 0 _ _ rfl rfl; clear hF
            go_simp
            refine (HT1.out x).mono ?_
            rintro e x1 ⟨rfl, rfl⟩
            exact ⟨_, rfl, hK _ _ (Grow.refl _) rfl⟩
          refine Plan.det 17 rfl (Grow.refl) ?_
          apply Exists.intro
          refine ⟨fun vs x hR hF K hK => ?_, ?_⟩
          · clear hF
            go_simp
            exact hK _ _ (Grow.refl _) rfl
          refine Plan.det 18 rfl (Grow.refl) ?_
          apply Exists.intro
          refine ⟨fun vs x hR hF K hK => ?_, ?_⟩
          · have f16 := hF 0 _ _ rfl rfl; clear hF
            go_simp
            exact hK _ _ (Grow.refl _) rfl
          refine Plan.det 19 rfl (Grow.refl) ?_
          apply Exists.intro
          refine ⟨fun vs x hR hF K hK => ?_, ?_⟩
          · have f17 := hF 0 _ _ rfl rfl; clear hF
            go_simp
            exact hK _ _ (Grow.refl _) rfl
          refine Plan.det 20 rfl (Grow.refl) ?_
          apply Exists.intro
          refine ⟨fun vs x hR hF K hK => ?_, ?_⟩
          · have f18 := hF 0 _ _ rfl rfl; have hc := HC.out x hR; clear hF
            go_simp
            exact hK _ _ (Grow.refl _) rfl
          refine Plan.det 21 rfl (Grow.refl) ?_
          apply Exists.intro
          refine ⟨fun vs x hR hF K hK => ?_, ?_⟩
          · clear hF
            go_simp
            exact hK _ _ (Grow.refl _) rfl
          refine Plan.det 22 rfl (Grow.refl) ?_
          apply Exists.intro
          refine ⟨fun vs x hR hF K hK => ?_, ?_⟩
          · have f20 := hF 0 _ _ rfl rfl; have hc := HC.out x hR; clear hF
            go_simp
            exact hK _ _ (Grow.refl _) rfl
          refine Plan.det 23 rfl (Grow.refl) ?_
          apply Exists.intro
          refine ⟨fun vs x hR hF K hK => ?_, ?_⟩
          · have f15 := hF 6 _ _ rfl rfl; have f19 := hF 2 _ _ rfl rfl; have f21 := hF 0 _ _ rfl rfl; clear hF
            go_simp
            refine (HT2.out x).mono ?_
            rintro e x1 ⟨rfl, rfl⟩
            exact ⟨_, rfl, hK _ _ (Grow.refl _) rfl⟩
          refine Plan.det 24 rfl (Grow.refl) ?_
          apply Exists.intro
          refine ⟨fun vs x hR hF K hK => ?_, ?_⟩
          · have f8 := hF 14 _ _ rfl rfl; have f15 := hF 7 _ _ rfl rfl; have f22 := hF 0 _ _ rfl rfl; clear hF
            go_simp
            exact hK _ _ (Grow.refl _) rfl
          refine Plan.rel 25 rfl (Grow.refl) (fun v x => ∃ b, v = .pointer (some ⟨b, 0, none⟩) ∧ wc.heap.size ≤ b ∧ Row x b [.bool false, .int .i64 0, .int .i64 0, .int .u64 0, .int .u64 0, .int .u64 0, .int .u64 0] 69) (fun v x y hR ⟨b, h1, h2, h3⟩ => ⟨b, h1, h2, h3.below hR h3.lt⟩) (fun vs x hR hF K hK => ?_) ?_
          · skip
            go_simp
            exact hK _ _ (Grow.alloc _ _) ⟨_, rfl, (by have := Grow.size hR; simp at this; omega), Row.at _ _ _⟩
          refine Plan.nil (fun vs x hR hF => ?_)
          have f0 := hF 24 _ _ rfl; have f1 := hF 23 _ _ rfl; have f2 := hF 22 _ _ rfl; have f3 := hF 21 _ _ rfl; have f4 := hF 20 _ _ rfl; have f5 := hF 19 _ _ rfl; have f6 := hF 18 _ _ rfl; have f7 := hF 17 _ _ rfl; have f8 := hF 16 _ _ rfl; have f9 := hF 15 _ _ rfl; have f10 := hF 14 _ _ rfl; have f11 := hF 13 _ _ rfl; have f12 := hF 12 _ _ rfl; have f13 := hF 11 _ _ rfl; have f14 := hF 10 _ _ rfl; have f15 := hF 9 _ _ rfl; have f16 := hF 8 _ _ rfl; have f17 := hF 7 _ _ rfl; have f18 := hF 6 _ _ rfl; have f19 := hF 5 _ _ rfl; have f20 := hF 4 _ _ rfl; have f21 := hF 3 _ _ rfl; have f22 := hF 2 _ _ rfl; have f23 := hF 1 _ _ rfl; have f24 := hF 0 _ _ rfl
          clear hF
          simp only [f0, f1, f2, f3, f4, f5, f6, f7, f8, f9, f10, f11, f12, f13, f14, f15, f16, f17, f18, f19, f20, f21, f22, f23]
          clear f0 f1 f2 f3 f4 f5 f6 f7 f8 f9 f10 f11 f12 f13 f14 f15 f16 f17 f18 f19 f20 f21 f22 f23
          simp only [List.drop_succ_cons, List.drop_zero]
          obtain ⟨bk, e24, hbk, hrow⟩ := f24
          simp only [e24]
          have HQ := hid (HX.out.below ((Below.refl _ wc).drew.trans hR))
          have HCX := hid (CellsAt.below (w := wc.drew) HCE.out hR)
          have HROW := hid hrow
          have qb := hrow.c7f
          have zb := hrow.lt
          have hne1 : w.heap.size + 1 < bk := by omega
          have hgbk : gb ≠ bk := by omega
          clear hR HC q1 q2 HT1 HT2 hrow e24 hbk
          go_upto_region 15 with fail
          have s1 := HROW.out.set7 (.bool true) (.int .i64 (ltimes F.least p.lo)) (.int .i64 (ltimes F.most p.hi)) (.int .u64 0) (.int .u64 0) (.int .u64 0) (.int .u64 0)
          have s2 := But.set7m (S := [bk]) (B := bk) (But.refl [bk] x) (by simp) (.bool true) (.int .i64 (ltimes F.least p.lo)) (.int .i64 (ltimes F.most p.hi)) (.int .u64 0) (.int .u64 0) (.int .u64 0) (.int .u64 0)
          generalize (((((((x.setCell ⟨bk, 0, none⟩ (.bool true)).setCell ⟨bk, 1, none⟩ (.int .i64 (ltimes F.least p.lo))).setCell ⟨bk, 2, none⟩ (.int .i64 (ltimes F.most p.hi))).setCell ⟨bk, 3, none⟩ (.int .u64 0)).setCell ⟨bk, 4, none⟩ (.int .u64 0)).setCell ⟨bk, 5, none⟩ (.int .u64 0)).setCell ⟨bk, 6, none⟩ (.int .u64 0)) = y at s1 s2 ⊢
          have HS1 := hid s1
          have HBOX := hid (HQ.out.2.2.1.but s2 (by simp; omega))
          have HRES := hid (HQ.out.2.2.2.1.but s2 (by simp; omega))
          have HPY := hid (HQ.out.2.1.but s2 (by simp; omega) (by simp; omega))
          have hcl := HCX.out.but s2 (by simp; omega)
          have HBY : Hid (But [KB] w y) := HQ.out.2.2.2.2.1.later s2 (fun i hi => .inr (by simp at hi; omega))
          have q4 := HBOX.out.c9
          have z4 := HBOX.out.lt
          have q5 := hcl.c7
          rw [Nat.zero_mul] at q5
          have q6 := s1.c7f
          have z6 := s1.lt
          have q7 := HRES.out.c7f
          have z7 := HRES.out.lt
          clear s1 s2 hcl qb zb
          rcases (show (p.hi != 0) = false ∨ (p.hi != 0) = true by cases (p.hi != 0) <;> simp) with dhi | dhi
          · have HHI := hid dhi
            go_wp2_with fail
            refine ret_row 4 69 rfl (w.heap.size + 1) rfl (F.rep p.lo p.hi).cells (CellsAt.of_row (T := 69) ?_) _ Try.underlying69 rfl (size_rfacts _ _ _ _ _ _ _) rfl ?_
            · rw [show (F.rep p.lo p.hi).cells = [.bool true, .int .i64 (ltimes F.least p.lo), .int .i64 (ltimes F.most p.hi), .int .u64 0, .int .u64 0, .int .u64 0, .int .u64 0] by have h1 := HLO.out; have h2 := HHI.out; simp at h1 h2; simp [Facts.rep, Facts.cells, h1, h2, Cs.none]]
              exact HRES.out.set7 _ _ _ _ _ _ _
            · rw [HLE.out, HL.out]
              exact ⟨rfl, But.set7 HBY.out (by omega) _ _ _ _ _ _ _, HPY.out.other7 (by omega) (by omega) _ _ _ _ _ _ _⟩
          · have HHI := hid dhi
            go_upto_region 17 with fail
            have s3 := (((HS1.out.set 3 (.int .u64 F.first.a)).set 4 (.int .u64 F.first.b)).set 5 (.int .u64 F.first.c)).set 6 (.int .u64 F.first.d)
            have s4 := ((((But.refl [bk] y).setCell (p := ⟨bk, 3, none⟩) (.inl (by simp)) (.int .u64 F.first.a)).setCell (p := ⟨bk, 4, none⟩) (.inl (by simp)) (.int .u64 F.first.b)).setCell (p := ⟨bk, 5, none⟩) (.inl (by simp)) (.int .u64 F.first.c)).setCell (p := ⟨bk, 6, none⟩) (.inl (by simp)) (.int .u64 F.first.d)
            generalize ((((y.setCell ⟨bk, 3, none⟩ (.int .u64 F.first.a)).setCell ⟨bk, 4, none⟩ (.int .u64 F.first.b)).setCell ⟨bk, 5, none⟩ (.int .u64 F.first.c)).setCell ⟨bk, 6, none⟩ (.int .u64 F.first.d)) = y2 at s3 s4 ⊢
            have s5 : Row y2 bk [.bool true, .int .i64 (ltimes F.least p.lo), .int .i64 (ltimes F.most p.hi), .int .u64 F.first.a, .int .u64 F.first.b, .int .u64 F.first.c, .int .u64 F.first.d] 69 := s3
            have HRES2 := hid (HRES.out.but s4 (by simp; omega))
            have HPY2 := hid (HPY.out.but s4 (by simp; omega) (by simp; omega))
            have HBY2 : Hid (But [KB] w y2) := HBY.out.later s4 (fun i hi => .inr (by simp at hi; omega))
            have q8 := s5.c7f
            have z8 := s5.lt
            have q9 := HRES2.out.c7f
            have z9 := HRES2.out.lt
            clear s3 s4 s5 q4 q5 q6 q7 z4 z6 z7
            go_wp2_with fail
            refine ret_row 4 69 rfl (w.heap.size + 1) rfl (F.rep p.lo p.hi).cells (CellsAt.of_row (T := 69) ?_) _ Try.underlying69 rfl (size_rfacts _ _ _ _ _ _ _) rfl ?_
            · rw [show (F.rep p.lo p.hi).cells = [.bool true, .int .i64 (ltimes F.least p.lo), .int .i64 (ltimes F.most p.hi), .int .u64 F.first.a, .int .u64 F.first.b, .int .u64 F.first.c, .int .u64 F.first.d] by have h1 := HLO.out; have h2 := HHI.out; simp at h1 h2; simp [Facts.rep, Facts.cells, h1, h2]]
              exact HRES2.out.set7 _ _ _ _ _ _ _
            · rw [HLE.out, HL.out]
              exact ⟨rfl, But.set7 HBY2.out (by omega) _ _ _ _ _ _ _, HPY2.out.other7 (by omega) (by omega) _ _ _ _ _ _ _⟩
        · have HLO := hid dlo
          go_wp2_with fail
          refine wp_region_inv 25 (Grow) (by kernel_rfl) (by kernel_rfl) (Grow.refl) (fun _ _ _ => Grow.trans) ?_
          simp only [fill, dstOf, Act.put, List.take_succ_cons, List.take_zero, List.getElem?_toArray, List.getElem?_cons_zero, List.getElem?_cons_succ, Option.bind_some, List.setIfInBounds_toArray, List.set_cons_zero, List.set_cons_succ]
          refine Plan.det 1 rfl (Grow.refl) ?_
          apply Exists.intro
          refine ⟨fun vs x hR hF K hK => ?_, ?_⟩
          · clear hF
            go_simp
            exact hK _ _ (Grow.refl _) rfl
          refine Plan.det 2 rfl (Grow.refl) ?_
          apply Exists.intro
          refine ⟨fun vs x hR hF K hK => ?_, ?_⟩
          · have f0 := hF 0 _ _ rfl rfl; have hc := HC.out x hR; clear hF
            go_simp
            exact hK _ _ (Grow.refl _) rfl
          refine Plan.det 3 rfl (Grow.refl) ?_
          apply Exists.intro
          refine ⟨fun vs x hR hF K hK => ?_, ?_⟩
          · have f1 := hF 0 _ _ rfl rfl; clear hF
            go_simp
            exact hK _ _ (Grow.refl _) rfl
          refine Plan.det 4 rfl (Grow.refl) ?_
          apply Exists.intro
          refine ⟨fun vs x hR hF K hK => ?_, ?_⟩
          · have f2 := hF 0 _ _ rfl rfl; clear hF
            go_simp
            exact hK _ _ (Grow.refl _) rfl
          refine Plan.det 5 rfl (Grow.refl) ?_
          apply Exists.intro
          refine ⟨fun vs x hR hF K hK => ?_, ?_⟩
          · have f3 := hF 0 _ _ rfl rfl; clear hF
            go_simp
            exact hK _ _ (Grow.refl _) rfl
          refine Plan.det 6 rfl (Grow.refl) ?_
          apply Exists.intro
          refine ⟨fun vs x hR hF K hK => ?_, ?_⟩
          · have f3 := hF 1 _ _ rfl rfl; have f4 := hF 0 _ _ rfl rfl; clear hF
            go_simp
            exact hK _ _ (Grow.refl _) rfl
          refine Plan.det 7 rfl (Grow.refl) ?_
          apply Exists.intro
          refine ⟨fun vs x hR hF K hK => ?_, ?_⟩
          · have f3 := hF 2 _ _ rfl rfl; have f5 := hF 0 _ _ rfl rfl; clear hF
            go_simp
            exact hK _ _ (Grow.refl _) rfl
          refine Plan.det 8 rfl (Grow.refl) ?_
          apply Exists.intro
          refine ⟨fun vs x hR hF K hK => ?_, ?_⟩
          · have f3 := hF 3 _ _ rfl rfl; have f6 := hF 0 _ _ rfl rfl; have hc := HC.out x hR; clear hF
            go_simp
            exact hK _ _ (Grow.refl _) rfl
          refine Plan.det 9 rfl (Grow.refl) ?_
          apply Exists.intro
          refine ⟨fun vs x hR hF K hK => ?_, ?_⟩
          · have f3 := hF 4 _ _ rfl rfl; have f7 := hF 0 _ _ rfl rfl; clear hF
            go_simp
            exact hK _ _ (Grow.refl _) rfl
          refine Plan.det 10 rfl (Grow.refl) ?_
          apply Exists.intro
          refine ⟨fun vs x hR hF K hK => ?_, ?_⟩
          · clear hF
            go_simp
            exact hK _ _ (Grow.refl _) rfl
          refine Plan.det 11 rfl (Grow.refl) ?_
          apply Exists.intro
          refine ⟨fun vs x hR hF K hK => ?_, ?_⟩
          · have f9 := hF 0 _ _ rfl rfl; clear hF
            go_simp
            exact hK _ _ (Grow.refl _) rfl
          refine Plan.det 12 rfl (Grow.refl) ?_
          apply Exists.intro
          refine ⟨fun vs x hR hF K hK => ?_, ?_⟩
          · have f10 := hF 0 _ _ rfl rfl; clear hF
            go_simp
            exact hK _ _ (Grow.refl _) rfl
          refine Plan.det 13 rfl (Grow.refl) ?_
          apply Exists.intro
          refine ⟨fun vs x hR hF K hK => ?_, ?_⟩
          · have f11 := hF 0 _ _ rfl rfl; have hc := HC.out x hR; clear hF
            go_simp
            exact hK _ _ (Grow.refl _) rfl
          refine Plan.det 14 rfl (Grow.refl) ?_
          apply Exists.intro
          refine ⟨fun vs x hR hF K hK => ?_, ?_⟩
          · clear hF
            go_simp
            exact hK _ _ (Grow.refl _) rfl
          refine Plan.det 15 rfl (Grow.refl) ?_
          apply Exists.intro
          refine ⟨fun vs x hR hF K hK => ?_, ?_⟩
          · have f13 := hF 0 _ _ rfl rfl; have hc := HC.out x hR; clear hF
            go_simp
            exact hK _ _ (Grow.refl _) rfl
          refine Plan.det 16 rfl (Grow.refl) ?_
          apply Exists.intro
          refine ⟨fun vs x hR hF K hK => ?_, ?_⟩
          · have f3 := hF 11 _ _ rfl rfl; have f12 := hF 2 _ _ rfl rfl; have f14 := hF 0 _ _ rfl rfl; clear hF
            go_simp
            refine (HT1.out x).mono ?_
            rintro e x1 ⟨rfl, rfl⟩
            exact ⟨_, rfl, hK _ _ (Grow.refl _) rfl⟩
          refine Plan.det 17 rfl (Grow.refl) ?_
          apply Exists.intro
          refine ⟨fun vs x hR hF K hK => ?_, ?_⟩
          · clear hF
            go_simp
            exact hK _ _ (Grow.refl _) rfl
          refine Plan.det 18 rfl (Grow.refl) ?_
          apply Exists.intro
          refine ⟨fun vs x hR hF K hK => ?_, ?_⟩
          · have f16 := hF 0 _ _ rfl rfl; clear hF
            go_simp
            exact hK _ _ (Grow.refl _) rfl
          refine Plan.det 19 rfl (Grow.refl) ?_
          apply Exists.intro
          refine ⟨fun vs x hR hF K hK => ?_, ?_⟩
          · have f17 := hF 0 _ _ rfl rfl; clear hF
            go_simp
            exact hK _ _ (Grow.refl _) rfl
          refine Plan.det 20 rfl (Grow.refl) ?_
          apply Exists.intro
          refine ⟨fun vs x hR hF K hK => ?_, ?_⟩
          · have f18 := hF 0 _ _ rfl rfl; have hc := HC.out x hR; clear hF
            go_simp
            exact hK _ _ (Grow.refl _) rfl
          refine Plan.det 21 rfl (Grow.refl) ?_
          apply Exists.intro
          refine ⟨fun vs x hR hF K hK => ?_, ?_⟩
          · clear hF
            go_simp
            exact hK _ _ (Grow.refl _) rfl
          refine Plan.det 22 rfl (Grow.refl) ?_
          apply Exists.intro
          refine ⟨fun vs x hR hF K hK => ?_, ?_⟩
          · have f20 := hF 0 _ _ rfl rfl; have hc := HC.out x hR; clear hF
            go_simp
            exact hK _ _ (Grow.refl _) rfl
          refine Plan.det 23 rfl (Grow.refl) ?_
          apply Exists.intro
          refine ⟨fun vs x hR hF K hK => ?_, ?_⟩
          · have f15 := hF 6 _ _ rfl rfl; have f19 := hF 2 _ _ rfl rfl; have f21 := hF 0 _ _ rfl rfl; clear hF
            go_simp
            refine (HT2.out x).mono ?_
            rintro e x1 ⟨rfl, rfl⟩
            exact ⟨_, rfl, hK _ _ (Grow.refl _) rfl⟩
          refine Plan.det 24 rfl (Grow.refl) ?_
          apply Exists.intro
          refine ⟨fun vs x hR hF K hK => ?_, ?_⟩
          · have f8 := hF 14 _ _ rfl rfl; have f15 := hF 7 _ _ rfl rfl; have f22 := hF 0 _ _ rfl rfl; clear hF
            go_simp
            exact hK _ _ (Grow.refl _) rfl
          refine Plan.rel 25 rfl (Grow.refl) (fun v x => ∃ b, v = .pointer (some ⟨b, 0, none⟩) ∧ wc.heap.size ≤ b ∧ Row x b [.bool false, .int .i64 0, .int .i64 0, .int .u64 0, .int .u64 0, .int .u64 0, .int .u64 0] 69) (fun v x y hR ⟨b, h1, h2, h3⟩ => ⟨b, h1, h2, h3.below hR h3.lt⟩) (fun vs x hR hF K hK => ?_) ?_
          · skip
            go_simp
            exact hK _ _ (Grow.alloc _ _) ⟨_, rfl, (by have := Grow.size hR; simp at this; omega), Row.at _ _ _⟩
          refine Plan.nil (fun vs x hR hF => ?_)
          have f0 := hF 24 _ _ rfl; have f1 := hF 23 _ _ rfl; have f2 := hF 22 _ _ rfl; have f3 := hF 21 _ _ rfl; have f4 := hF 20 _ _ rfl; have f5 := hF 19 _ _ rfl; have f6 := hF 18 _ _ rfl; have f7 := hF 17 _ _ rfl; have f8 := hF 16 _ _ rfl; have f9 := hF 15 _ _ rfl; have f10 := hF 14 _ _ rfl; have f11 := hF 13 _ _ rfl; have f12 := hF 12 _ _ rfl; have f13 := hF 11 _ _ rfl; have f14 := hF 10 _ _ rfl; have f15 := hF 9 _ _ rfl; have f16 := hF 8 _ _ rfl; have f17 := hF 7 _ _ rfl; have f18 := hF 6 _ _ rfl; have f19 := hF 5 _ _ rfl; have f20 := hF 4 _ _ rfl; have f21 := hF 3 _ _ rfl; have f22 := hF 2 _ _ rfl; have f23 := hF 1 _ _ rfl; have f24 := hF 0 _ _ rfl
          clear hF
          simp only [f0, f1, f2, f3, f4, f5, f6, f7, f8, f9, f10, f11, f12, f13, f14, f15, f16, f17, f18, f19, f20, f21, f22, f23]
          clear f0 f1 f2 f3 f4 f5 f6 f7 f8 f9 f10 f11 f12 f13 f14 f15 f16 f17 f18 f19 f20 f21 f22 f23
          simp only [List.drop_succ_cons, List.drop_zero]
          obtain ⟨bk, e24, hbk, hrow⟩ := f24
          simp only [e24]
          have HQ := hid (HX.out.below ((Below.refl _ wc).drew.trans hR))
          have HCX := hid (CellsAt.below (w := wc.drew) HCE.out hR)
          have HROW := hid hrow
          have qb := hrow.c7f
          have zb := hrow.lt
          have hne1 : w.heap.size + 1 < bk := by omega
          have hgbk : gb ≠ bk := by omega
          clear hR HC q1 q2 HT1 HT2 hrow e24 hbk
          go_upto_region 15 with fail
          have s1 := HROW.out.set7 (.bool F.null) (.int .i64 (ltimes F.least p.lo)) (.int .i64 (ltimes F.most p.hi)) (.int .u64 0) (.int .u64 0) (.int .u64 0) (.int .u64 0)
          have s2 := But.set7m (S := [bk]) (B := bk) (But.refl [bk] x) (by simp) (.bool F.null) (.int .i64 (ltimes F.least p.lo)) (.int .i64 (ltimes F.most p.hi)) (.int .u64 0) (.int .u64 0) (.int .u64 0) (.int .u64 0)
          generalize (((((((x.setCell ⟨bk, 0, none⟩ (.bool F.null)).setCell ⟨bk, 1, none⟩ (.int .i64 (ltimes F.least p.lo))).setCell ⟨bk, 2, none⟩ (.int .i64 (ltimes F.most p.hi))).setCell ⟨bk, 3, none⟩ (.int .u64 0)).setCell ⟨bk, 4, none⟩ (.int .u64 0)).setCell ⟨bk, 5, none⟩ (.int .u64 0)).setCell ⟨bk, 6, none⟩ (.int .u64 0)) = y at s1 s2 ⊢
          have HS1 := hid s1
          have HBOX := hid (HQ.out.2.2.1.but s2 (by simp; omega))
          have HRES := hid (HQ.out.2.2.2.1.but s2 (by simp; omega))
          have HPY := hid (HQ.out.2.1.but s2 (by simp; omega) (by simp; omega))
          have hcl := HCX.out.but s2 (by simp; omega)
          have HBY : Hid (But [KB] w y) := HQ.out.2.2.2.2.1.later s2 (fun i hi => .inr (by simp at hi; omega))
          have q4 := HBOX.out.c9
          have z4 := HBOX.out.lt
          have q5 := hcl.c7
          rw [Nat.zero_mul] at q5
          have q6 := s1.c7f
          have z6 := s1.lt
          have q7 := HRES.out.c7f
          have z7 := HRES.out.lt
          clear s1 s2 hcl qb zb
          rcases (show (p.hi != 0) = false ∨ (p.hi != 0) = true by cases (p.hi != 0) <;> simp) with dhi | dhi
          · have HHI := hid dhi
            go_wp2_with fail
            refine ret_row 4 69 rfl (w.heap.size + 1) rfl (F.rep p.lo p.hi).cells (CellsAt.of_row (T := 69) ?_) _ Try.underlying69 rfl (size_rfacts _ _ _ _ _ _ _) rfl ?_
            · rw [show (F.rep p.lo p.hi).cells = [.bool F.null, .int .i64 (ltimes F.least p.lo), .int .i64 (ltimes F.most p.hi), .int .u64 0, .int .u64 0, .int .u64 0, .int .u64 0] by have h1 := HLO.out; have h2 := HHI.out; simp at h1 h2; simp [Facts.rep, Facts.cells, h1, h2, Cs.none]]
              exact HRES.out.set7 _ _ _ _ _ _ _
            · rw [HLE.out, HL.out]
              exact ⟨rfl, But.set7 HBY.out (by omega) _ _ _ _ _ _ _, HPY.out.other7 (by omega) (by omega) _ _ _ _ _ _ _⟩
          · have HHI := hid dhi
            go_upto_region 17 with fail
            have s3 := (((HS1.out.set 3 (.int .u64 F.first.a)).set 4 (.int .u64 F.first.b)).set 5 (.int .u64 F.first.c)).set 6 (.int .u64 F.first.d)
            have s4 := ((((But.refl [bk] y).setCell (p := ⟨bk, 3, none⟩) (.inl (by simp)) (.int .u64 F.first.a)).setCell (p := ⟨bk, 4, none⟩) (.inl (by simp)) (.int .u64 F.first.b)).setCell (p := ⟨bk, 5, none⟩) (.inl (by simp)) (.int .u64 F.first.c)).setCell (p := ⟨bk, 6, none⟩) (.inl (by simp)) (.int .u64 F.first.d)
            generalize ((((y.setCell ⟨bk, 3, none⟩ (.int .u64 F.first.a)).setCell ⟨bk, 4, none⟩ (.int .u64 F.first.b)).setCell ⟨bk, 5, none⟩ (.int .u64 F.first.c)).setCell ⟨bk, 6, none⟩ (.int .u64 F.first.d)) = y2 at s3 s4 ⊢
            have s5 : Row y2 bk [.bool F.null, .int .i64 (ltimes F.least p.lo), .int .i64 (ltimes F.most p.hi), .int .u64 F.first.a, .int .u64 F.first.b, .int .u64 F.first.c, .int .u64 F.first.d] 69 := s3
            have HRES2 := hid (HRES.out.but s4 (by simp; omega))
            have HPY2 := hid (HPY.out.but s4 (by simp; omega) (by simp; omega))
            have HBY2 : Hid (But [KB] w y2) := HBY.out.later s4 (fun i hi => .inr (by simp at hi; omega))
            have q8 := s5.c7f
            have z8 := s5.lt
            have q9 := HRES2.out.c7f
            have z9 := HRES2.out.lt
            clear s3 s4 s5 q4 q5 q6 q7 z4 z6 z7
            go_wp2_with fail
            refine ret_row 4 69 rfl (w.heap.size + 1) rfl (F.rep p.lo p.hi).cells (CellsAt.of_row (T := 69) ?_) _ Try.underlying69 rfl (size_rfacts _ _ _ _ _ _ _) rfl ?_
            · rw [show (F.rep p.lo p.hi).cells = [.bool F.null, .int .i64 (ltimes F.least p.lo), .int .i64 (ltimes F.most p.hi), .int .u64 F.first.a, .int .u64 F.first.b, .int .u64 F.first.c, .int .u64 F.first.d] by have h1 := HLO.out; have h2 := HHI.out; simp at h1 h2; simp [Facts.rep, Facts.cells, h1, h2]]
              exact HRES2.out.set7 _ _ _ _ _ _ _
            · rw [HLE.out, HL.out]
              exact ⟨rfl, But.set7 HBY2.out (by omega) _ _ _ _ _ _ _, HPY2.out.other7 (by omega) (by omega) _ _ _ _ _ _ _⟩
      by_cases o3 : p.op = 3
      · skip
        have d2 : (p.op == 2) = false := by simp [o3]
        have d3 : (p.op == 3) = true := by simpa using o3
        obtain ⟨F, l, hF, hl1⟩ := Re.learns_two HTY.out (.inl o3) g
        have hl : p.learn (Re.learns xs g).1 (Re.learns xs g).2 = (Facts.cats (Re.learns xs g).1, (Re.learns xs g).2) := by unfold Pay.learn; rw [if_neg o2, if_pos o3]
        have HL := hid hl
        have HO1 : OwnR wc (w.heap.size + 2) (.slice a n c) (Re.learns xs g).1 := HX.out.1
        obtain ⟨gb, cc, hsl, hgb1, hgb2, hce⟩ := HO1.elem 0 F (by rw [hF]; rfl)
        have hcap := HO1.cap
        injection hsl with e1 e2 e3
        subst e1 e2 e3
        have HFAT := hid HO1.fat
        have hll := Re.learns_len xs g
        have hlb : (Re.learns xs g).1.length ≤ 1048576 := by omega
        have hl0 : 0 < (Re.learns xs g).1.length := by rw [hF]; simp
        have HWF := hid HX.out.2.2.2.2.2.2
        have HCS := hid (cats_start (Re.learns xs g).1 (by rw [hF]; simp) HWF.out)
        clear o2 o3 hl hce HO1 hF hll
        go_wp2_with fail
        refine (refcat_any gb 0 c (Re.learns xs g).1 _ HFAT.out HWF.out hlb hcap hgb2).mono ?_
        rw [HCS.out]
        rintro e w2 ⟨rfl, hb2⟩
        have HQ := hid (HX.out.below hb2)
        have q4 := HQ.out.2.2.2.1.c7f
        have z4 := HQ.out.2.2.2.1.lt
        generalize Facts.cats (Re.learns xs g).1 = A at HL ⊢
        clear hb2 q1 q2
        unfold encF Facts.cells
        go_wp2_with fail
        refine ret_row 4 69 rfl (w.heap.size + 1) rfl A.cells (CellsAt.of_row (T := 69) (HQ.out.2.2.2.1.set7 _ _ _ _ _ _ _)) _ Try.underlying69 rfl (size_rfacts _ _ _ _ _ _ _) rfl ?_
        rw [HLE.out, HL.out]
        exact ⟨rfl, But.set7 HQ.out.2.2.2.2.1 (by omega) _ _ _ _ _ _ _, HQ.out.2.1.other7 (by omega) (by omega) _ _ _ _ _ _ _⟩
      by_cases o4 : p.op = 4
      · skip
        have d2 : (p.op == 2) = false := by simp [o4]
        have d3 : (p.op == 3) = false := by simp [o4]
        have d4 : (p.op == 4) = true := by simpa using o4
        obtain ⟨F, l, hF, hl1⟩ := Re.learns_two HTY.out (.inr o4) g
        have hl : p.learn (Re.learns xs g).1 (Re.learns xs g).2 = (Facts.alts (Re.learns xs g).1, (Re.learns xs g).2) := by unfold Pay.learn; rw [if_neg o2, if_neg o3, if_pos o4]
        have HL := hid hl
        have HO1 : OwnR wc (w.heap.size + 2) (.slice a n c) (Re.learns xs g).1 := HX.out.1
        obtain ⟨gb, cc, hsl, hgb1, hgb2, hce⟩ := HO1.elem 0 F (by rw [hF]; rfl)
        have hcap := HO1.cap
        injection hsl with e1 e2 e3
        subst e1 e2 e3
        have HFAT := hid HO1.fat
        have hll := Re.learns_len xs g
        have hlb : (Re.learns xs g).1.length ≤ 1048576 := by omega
        have hl0 : 0 < (Re.learns xs g).1.length := by rw [hF]; simp
        have HWF := hid HX.out.2.2.2.2.2.2
        clear o2 o4 hl hce HO1 hF hll
        go_wp2_with fail
        refine (refalt_any gb 0 c (Re.learns xs g).1 _ HFAT.out HWF.out hlb hcap hgb2 hl0).mono ?_
        rintro e w2 ⟨rfl, hb2⟩
        have HQ := hid (HX.out.below hb2)
        have q4 := HQ.out.2.2.2.1.c7f
        have z4 := HQ.out.2.2.2.1.lt
        generalize Facts.alts (Re.learns xs g).1 = A at HL ⊢
        clear hb2 q1 q2
        unfold encF Facts.cells
        go_wp2_with fail
        refine ret_row 4 69 rfl (w.heap.size + 1) rfl A.cells (CellsAt.of_row (T := 69) (HQ.out.2.2.2.1.set7 _ _ _ _ _ _ _)) _ Try.underlying69 rfl (size_rfacts _ _ _ _ _ _ _) rfl ?_
        rw [HLE.out, HL.out]
        exact ⟨rfl, But.set7 HQ.out.2.2.2.2.1 (by omega) _ _ _ _ _ _ _, HQ.out.2.1.other7 (by omega) (by omega) _ _ _ _ _ _ _⟩
      have d2 : (p.op == 2) = false := by simpa using o2
      have d3 : (p.op == 3) = false := by simpa using o3
      have d4 : (p.op == 4) = false := by simpa using o4
      have d5 : (p.op == 5) = false := by simpa using o5
      have d6 : (p.op == 6) = false := by simpa using o6
      have d9 : (p.op == 9) = false := by simpa using o9
      have hl : p.learn (Re.learns xs g).1 (Re.learns xs g).2 = (Facts.empty, (Re.learns xs g).2) := by unfold Pay.learn; rw [if_neg o2, if_neg o3, if_neg o4, if_neg o5, if_neg o6, if_neg o9]
      have HL := hid hl
      clear o2 o3 o4 o5 o6 o9 hl
      go_wp2_with fail
      refine ret_row 4 69 rfl (w.heap.size + 1) rfl [.bool true, .int .i64 0, .int .i64 0, .int .u64 0, .int .u64 0, .int .u64 0, .int .u64 0] (CellsAt.of_row (T := 69) (HX.out.2.2.2.1.set7 _ _ _ _ _ _ _)) _ Try.underlying69 rfl (size_rfacts _ _ _ _ _ _ _) rfl ?_
      rw [HLE.out, HL.out]
      exact ⟨rfl, But.set7 HBX.out (by omega) _ _ _ _ _ _ _, HX.out.2.1.other7 (by omega) (by omega) _ _ _ _ _ _ _⟩
end Go.Proofs.Ytibfnmkeghkdpaa
