/- The program's alt. -/
import Derived.Test.YthnpbopnpdlmnaaDoorA05
import Derived.Test.YthnpbopnpdlmnaaDoorA06
namespace Go.Proofs.YthnpbopnpdlmnaaDoor
open Go.RowKit
attribute [local go_sem] gives givesUpon

def TPost (BB : Nat) (go : Option Nat) (c : Nat) (G : Nat → List Inst) (L : List Inst) (ov : Bool) (w : World) (e : Ending) (w' : World) : Prop := ∃ L' ov', e = .returned (.tuple #[]) ∧ StR c G L ov L' ov' ∧ BPost BB go L' ov' w w'
def OwnJ (w : World) (base : Nat) (v : Value) (J : List Nat) : Prop := w.ownsRow base 3 1 v J.length (J.map fun j => .int .i64 (j : Nat))
theorem OwnJ.lt {w : World} {base : Nat} {v : Value} {J : List Nat} (h : OwnJ w base v J) : ∀ g, v.ownBlock = some g → base ≤ g ∧ g < w.heap.size := World.ownsRow.lt h
theorem own_ne {w : World} {b1 b2 : Nat} {v1 v2 : Value} {L : List Inst} {J : List Nat} (h : OwnI w b1 v1 L) (k : OwnJ w b2 v2 J) (g : Nat) (h1 : v1.ownBlock = some g) (h2 : v2.ownBlock = some g) : False := by
  rcases h.2 with ⟨rfl, _⟩ | ⟨g1, cap1, cur1, rfl, _, e1, _⟩
  · simp [Value.ownBlock] at h1
  rcases k.2 with ⟨rfl, _⟩ | ⟨g2, cap2, cur2, rfl, _, e2, _⟩
  · simp [Value.ownBlock] at h2
  simp [Value.ownBlock] at h1 h2
  subst h1 h2
  rw [e1] at e2
  have e := Option.some.inj e2
  injection e with e3 e4
  exact absurd e4 (by decide)
theorem OwnJ.frb {w w' : World} {BB base : Nat} {go : Option Nat} {v : Value} {J : List Nat} (h : OwnJ w base v J) (hb : FrB BB go w w') (hB : BB < base) (hg : ∀ g, v.ownBlock = some g → go ≠ some g) : OwnJ w' base v J := by
  refine ⟨h.1, ?_⟩
  have hlt := h.lt
  rcases h.2 with hn | ⟨g, cap, cur, rfl, hb1, hgg, rest⟩
  · exact .inl hn
  · exact .inr ⟨g, cap, cur, rfl, hb1, (hb.block g (hlt g rfl).2 (by omega) (hg g rfl)).trans hgg, rest⟩
theorem OwnJ.below {w w' : World} {base : Nat} {v : Value} {J : List Nat} (h : OwnJ w base v J) (hb : Below w.heap.size w w') : OwnJ w' base v J := by
  refine ⟨h.1, ?_⟩
  have hlt := h.lt
  rcases h.2 with hn | ⟨g, cap, cur, rfl, hb1, hgg, rest⟩
  · exact .inl hn
  · exact .inr ⟨g, cap, cur, rfl, hb1, (hb.block g (hlt g rfl).2).trans hgg, rest⟩
theorem BldAt.grown {w w' : World} {BB : Nat} {go row : Option Nat} {L : List Inst} {ov : Bool} (h : BldAt w BB go L ov) (hg : w.grownBy w' row) (h1 : row ≠ some BB) (h2 : ∀ g, go = some g → row ≠ some g) : BldAt w' BB go L ov := by
  obtain ⟨a, c, k1, k2, k3, k4⟩ := h
  refine ⟨a, c, (hg.block BB k1.lt (fun e => h1 e.symm)).trans k1, ?_, k3, k4⟩
  refine World.ownsRow.kept k2 hg ?_
  cases hv : (Value.slice a L.length c).ownBlock with
  | none => exact .inl rfl
  | some g => exact .inr fun e => h2 g (k4.symm.trans hv) e.symm
theorem BldAt.apart {w : World} {BB base : Nat} {go : Option Nat} {L : List Inst} {ov : Bool} {v : Value} {J : List Nat} (h : BldAt w BB go L ov) (k : OwnJ w base v J) : ∀ g, v.ownBlock = some g → go ≠ some g := fun g hg e => by
  obtain ⟨a, c, k1, k2, k3, k4⟩ := h
  exact own_ne k2 k g (k4.trans e) hg
theorem AltI.start {xs : List Re} {L : List Inst} (hl : L.length ≤ 4096) : AltI xs 0 L L false [] :=
  ⟨fun _ => ⟨(by simp [Re.gpre]), rfl, rfl⟩, fun h => (by simp [Re.psize] at h; omega), fun h => (by cases h), fun j hj => (by cases hj), Nat.le_refl _, rfl⟩
theorem FrB.set {BB g : Nat} {w : World} (i : Nat) (v : Value) : FrB BB (some g) w (w.setCell ⟨g, i, none⟩ v) := by
  have hs := (But.refl [g] w).setCell (p := ⟨g, i, none⟩) (.inl (by simp)) v
  exact ⟨hs.os, hs.tape, hs.output, hs.size, fun j hj _ h2 => hs.block j hj (by simp; intro e; exact h2 (by rw [e]))⟩
theorem FrB.grown {BB : Nat} {go row : Option Nat} {w a b : World} (h : FrB BB go w a) (k : a.grownBy b row) (hr : ∀ g, row = some g → w.heap.size ≤ g) : FrB BB go w b :=
  ⟨k.os.trans h.os, k.tape.trans h.tape, k.output.trans h.output, Nat.le_trans h.size k.size, fun j hj h1 h2 => (k.block j (Nat.lt_of_lt_of_le hj h.size) (fun e => by have := hr j e.symm; omega)).trans (h.block j hj h1 h2)⟩
theorem info_j : (Tryd.prog.info? 3).map (fun i => (i.zero, i.size, i.bytes)) = some (some (.int .i64 0), 1, 8) := by kernel_rfl

set_option maxRecDepth 100000 in
set_option maxHeartbeats 8000000 in
theorem balt_any {wb : World} (BB : Nat) (hwb : wb.heap.size ≤ BB) (xs : List Re) (ad : Option Addr) (cap : Nat) (w : World) (go : Option Nat) (L : List Inst) (hbw : Below wb.heap.size wb w) (hB : BldAt w BB go L false) (hall : Re.AllIn wb xs ad 0) (hlen : xs.length ≤ 1048576) (h1 : 1 ≤ xs.length)
    (htree : ∀ k (hk : k < xs.length) (w : World) (cs : List Value) (go : Option Nat) (L : List Inst) (ov : Bool), xs[k].In wb cs → Below wb.heap.size wb w → BldAt w BB go L ov → (ov = true → L.length = 4096) → Calls Tryd.prog 19 #[.pointer (some ⟨BB, 0, none⟩), .agg cs.toArray] w (TPost BB go xs[k].csize xs[k].gen L ov w)) :
    Calls Tryd.prog 33 #[.pointer (some ⟨BB, 0, none⟩), .slice ad xs.length cap] w (TPost BB go (Re.asize xs) (fun n => Re.galt xs n (n + Re.asize xs)) L false w) := by
  have HAL := hid hall
  have HBW := hid hbw
  have HB := hid hB
  have HT := hid htree
  have hBB := hB.lt
  have hL := hB.len
  clear hall hbw hB htree
  go_enter Tryd.func33, Tryd.ntmps33
  go_wp2_with fail
  go_loopw [4, 12] (fun v i wr => ∃ (k : Nat) (go' : Option Nat) (L' : List Inst) (ov' : Bool) (J : List Nat) (a : Option Addr) (c : Nat), k < xs.length ∧ v = .slice a J.length c ∧ i = .int .i64 k ∧ Hid (AltI xs k L L' ov' J) ∧ Hid (OwnJ wr w.heap.size (.slice a J.length c) J ∧ BldAt wr BB go' L' ov' ∧ GoTo w go go' ∧ FrB BB go w wr)) (fun _ i _ => xs.length - (intOf i).toNat)
  case atStart => exact ⟨0, go, L, false, [], none, 0, by omega, rfl, rfl, AltI.start hL, World.ownsRow_nil _ _ _ _, HB.out, .inl rfl, FrB.refl _ _ _⟩
  case round =>
    obtain ⟨k, go', L', ov', J, a, c, hk, rfl, rfl, HA, HX⟩ := hrel
    have HOG : Hid (∀ g, go = some g → wb.heap.size ≤ g) := fun g hg => by have := (HB.out.own g hg).1; omega
    have HBR : Hid (Below wb.heap.size wb wr) := HBW.out.trans (HX.out.2.2.2.below HBW.out.size hwb HOG.out)
    obtain ⟨b, o, p', ad', n', cap', rfl, HC, HI0, hbb⟩ := HAL.out.kid HBR.out k hk
    have hal := (Below.refl wr.heap.size wr).alloc (Nat.le_refl _) (.cells #[.int .i64 p'.op, .int .u64 p'.set.a, .int .u64 p'.set.b, .int .u64 p'.set.c, .int .u64 p'.set.d, .int .i64 p'.lo, .int .i64 p'.hi, .int .i64 p'.gr, .slice ad' n' cap'] 28)
    have HBA := hid (HX.out.2.1.below hal)
    have HJA := hid (HX.out.1.below hal)
    have HBRA := hid (HBR.out.trans (hal.mono HBR.out.size))
    have HFA : Hid (FrB BB go w (wr.alloc (.cells #[.int .i64 p'.op, .int .u64 p'.set.a, .int .u64 p'.set.b, .int .u64 p'.set.c, .int .u64 p'.set.d, .int .i64 p'.lo, .int .i64 p'.hi, .int .i64 p'.gr, .slice ad' n' cap'] 28))) := HX.out.2.2.2.trans HX.out.2.2.1 (FrB.of_below hal)
    have HEL := hid (Row.new (w := wr) (B := wr.heap.size) (cs := [.int .i64 p'.op, .int .u64 p'.set.a, .int .u64 p'.set.b, .int .u64 p'.set.c, .int .u64 p'.set.d, .int .i64 p'.lo, .int .i64 p'.hi, .int .i64 p'.gr, .slice ad' n' cap']) (T := 28) rfl)
    have hfull := HA.out.full
    have hl' := HX.out.2.1.len
    clear hal
    rcases (show ((k : Int) == (xs.length : Int) - 1) = true ∨ ((k : Int) == (xs.length : Int) - 1) = false by cases ((k : Int) == (xs.length : Int) - 1) <;> simp) with dk | dk
    · have HLAST : Hid (k + 1 = xs.length) := by have h := beq_iff_eq.1 dk; show k + 1 = _; omega
      have HTC := hid (HT.out k hk _ _ go' L' ov' HI0.out HBRA.out HBA.out hfull)
      clear hfull
      go_wp2_with (first | (with_reducible (refine wpList_load_agg rfl 28 _ rfl b (o + (k * 9)) rfl _ _ HC.out Tryd.underlying28 rfl (size_re9 _ _ _ _ _ _ _ _ _) ?_)))
      refine HTC.out.mono ?_
      unfold TPost BPost
      rintro e w1 ⟨L2, o2, rfl, hs2, go2, hb2, hg2, hf2⟩
      have hsz : w.heap.size ≤ wr.heap.size := HX.out.2.2.2.size
      have HSE := hid (alt_end HA.out HLAST.out hs2 hL)
      have HJ1 : Hid (OwnJ w1 w.heap.size (.slice a J.length c) J) := HJA.out.frb hf2 (by omega) (HBA.out.apart HJA.out)
      have HJL : Hid (∀ j, j ∈ J → j < L2.length) := fun j hj => Nat.lt_of_lt_of_le (HA.out.jlt j hj) hs2.len
      have HG1 : Hid (GoTo w go go2) := HX.out.2.2.1.trans (by simp; omega) hg2
      have HF1 : Hid (FrB BB go w w1) := HFA.out.trans HX.out.2.2.1 hf2
      have HB1 := hid hb2
      have hl2 := hb2.len
      have hJk := HA.out.jl
      clear hs2 hb2 hg2 hf2
      clear HTC HA HX HBA HJA HFA HEL hl' HBRA HI0 HC
      go_wp2_with fail
      go_loopw [51] (fun v wq => ∃ m : Nat, v = .int .i64 m ∧ m ≤ J.length ∧ Hid (BldAt wq BB go2 (setXs L2 (J.take m) (L2.length : Nat)) o2) ∧ Hid (OwnJ wq w.heap.size (.slice a J.length c) J) ∧ Hid (FrB BB go w wq)) (fun v _ => J.length - (intOf v).toNat)
      case atStart => exact ⟨0, rfl, by omega, HB1.out, HJ1.out, HF1.out⟩
      case round =>
        obtain ⟨m, rfl, hmJ, hbq, hjq, hfq⟩ := hrel
        rcases Nat.lt_or_ge m J.length with hm | hm
        · obtain ⟨gj, capj, hvj, hj1, hj2⟩ := World.ownsRow.form hjq.out (by omega)
          injection hvj with e1 e2 e3
          subst e1 e3
          have hcj := World.ownsRow.cellAt hjq.out m (by simp; omega)
          rw [List.getElem?_map, List.getElem?_eq_getElem hm] at hcj
          simp only [Option.map_some] at hcj
          have hkl := HJL.out J[m] (List.getElem_mem hm)
          have htk : J.take (m + 1) = J.take m ++ [J[m]] := by rw [List.take_add_one, List.getElem?_eq_getElem hm]; rfl
          have HSX : Hid (setXs L2 (J.take (m + 1)) (L2.length : Nat) = setX (setXs L2 (J.take m) (L2.length : Nat)) J[m] (L2.length : Nat)) := by
            show List.foldl _ _ _ = _
            rw [htk, List.foldl_append]
            rfl
          generalize J[m] = kk at *
          have hxl := setXs_len (J.take m) ((L2.length : Nat) : Int) L2
          have HC : Hid (∀ x, Below wr.heap.size wr.drew x → ∃ (g c : Nat) (f : Inst), go2 = some g ∧ Row x BB [.slice (some ⟨g, 0, none⟩) L2.length c, .bool o2] 60 ∧ BB + 1 ≤ g ∧ g < x.heap.size ∧ CellsAt x g (kk * 7) f.cells ∧ (∀ i, x.frozen? ⟨g, i, none⟩ = false) ∧ BldAt (x.setCell ⟨g, kk * 7 + 5, none⟩ (.int .i64 (L2.length : Nat))) BB go2 (setXs L2 (J.take (m + 1)) (L2.length : Nat)) o2) := fun x hx => by
            obtain ⟨g, c, f, k0, k1, k2, k3, k4, k5, k6, k7⟩ := (hbq.out.below ((Below.refl _ wr).drew.trans hx)).opens kk (by rw [hxl]; exact hkl)
            rw [hxl] at k1
            rw [HSX.out]
            exact ⟨g, c, f, k0, k1, k2, k3, k4, k5, k6 _⟩
          obtain ⟨g, c0, f0, k0, k1, -, -, -, -, -⟩ := HC.out wr.drew (Below.refl _ _)
          have HC2 : Hid (∀ x, Below wr.heap.size wr.drew x → x.cell? ⟨BB, 0, none⟩ = some (.slice (some ⟨g, 0, none⟩) L2.length c0)) := fun x hx => by
            have hz := hbq.out.lt
            exact (k1.below hx hz).cell 0
          have HK0 := hid k0
          have HAP := hid (hbq.out.apart hjq.out)
          have HBR3 := hid hbq.out.lt
          clear hxl k1 htk hbq k0
          go_wp2_with fail
          refine wp_region_inv 12 (Below wr.heap.size) (by kernel_rfl) (by kernel_rfl) (Below.refl _) (fun _ _ _ => Below.trans) ?_
          simp only [fill, dstOf, Act.put, List.take_succ_cons, List.take_zero, List.getElem?_toArray, List.getElem?_cons_zero, List.getElem?_cons_succ, Option.bind_some, List.setIfInBounds_toArray, List.set_cons_zero, List.set_cons_succ]
          refine Plan.det 1 rfl (Below.refl _) ?_
          apply Exists.intro
          refine ⟨fun vs x hR hF K hK => ?_, ?_⟩
          · clear hF
            go_simp
            exact hK _ _ (Below.refl _ _) rfl
          refine Plan.det 2 rfl (Below.refl _) ?_
          apply Exists.intro
          refine ⟨fun vs x hR hF K hK => ?_, ?_⟩
          · have f0 := hF 0 _ _ rfl rfl; clear hF
            go_simp
            exact hK _ _ (Below.refl _ _) rfl
          refine Plan.det 3 rfl (Below.refl _) ?_
          apply Exists.intro
          refine ⟨fun vs x hR hF K hK => ?_, ?_⟩
          · have f1 := hF 0 _ _ rfl rfl; clear hF
            go_simp
            exact hK _ _ (Below.refl _ _) rfl
          refine Plan.det 4 rfl (Below.refl _) ?_
          apply Exists.intro
          refine ⟨fun vs x hR hF K hK => ?_, ?_⟩
          · have f2 := hF 0 _ _ rfl rfl; have hc := HC2.out x hR; clear hF
            go_simp
            exact hK _ _ (Below.refl _ _) rfl
          refine Plan.det 5 rfl (Below.refl _) ?_
          apply Exists.intro
          refine ⟨fun vs x hR hF K hK => ?_, ?_⟩
          · clear hF
            go_simp
            exact hK _ _ (Below.refl _ _) rfl
          refine Plan.det 6 rfl (Below.refl _) ?_
          apply Exists.intro
          refine ⟨fun vs x hR hF K hK => ?_, ?_⟩
          · clear hF
            go_simp
            exact hK _ _ (Below.refl _ _) rfl
          refine Plan.det 7 rfl (Below.refl _) ?_
          apply Exists.intro
          refine ⟨fun vs x hR hF K hK => ?_, ?_⟩
          · have f5 := hF 0 _ _ rfl rfl; clear hF
            go_simp
            exact hK _ _ (Below.refl _ _) rfl
          refine Plan.det 8 rfl (Below.refl _) ?_
          apply Exists.intro
          refine ⟨fun vs x hR hF K hK => ?_, ?_⟩
          · have f6 := hF 0 _ _ rfl rfl; clear hF
            go_simp
            exact hK _ _ (Below.refl _ _) rfl
          refine Plan.det 9 rfl (Below.refl _) ?_
          apply Exists.intro
          refine ⟨fun vs x hR hF K hK => ?_, ?_⟩
          · have f7 := hF 0 _ _ rfl rfl; have hc := HC2.out x hR; clear hF
            go_simp
            exact hK _ _ (Below.refl _ _) rfl
          refine Plan.det 10 rfl (Below.refl _) ?_
          apply Exists.intro
          refine ⟨fun vs x hR hF K hK => ?_, ?_⟩
          · have f8 := hF 0 _ _ rfl rfl; clear hF
            go_simp
            exact hK _ _ (Below.refl _ _) rfl
          refine Plan.det 11 rfl (Below.refl _) ?_
          apply Exists.intro
          refine ⟨fun vs x hR hF K hK => ?_, ?_⟩
          · have f0 := hF 9 _ _ rfl rfl; have f1 := hF 8 _ _ rfl rfl; have f2 := hF 7 _ _ rfl rfl; have f3 := hF 6 _ _ rfl rfl; have f4 := hF 5 _ _ rfl rfl; have f5 := hF 4 _ _ rfl rfl; have f6 := hF 3 _ _ rfl rfl; have f7 := hF 2 _ _ rfl rfl; have f8 := hF 1 _ _ rfl rfl; have f9 := hF 0 _ _ rfl rfl; clear hF
            go_simp
            exact hK _ _ (Below.refl _ _) rfl
          refine Plan.det 12 rfl (Below.refl _) ?_
          apply Exists.intro
          refine ⟨fun vs x hR hF K hK => ?_, ?_⟩
          · have f0 := hF 10 _ _ rfl rfl; have f1 := hF 9 _ _ rfl rfl; have f2 := hF 8 _ _ rfl rfl; have f3 := hF 7 _ _ rfl rfl; have f4 := hF 6 _ _ rfl rfl; have f5 := hF 5 _ _ rfl rfl; have f6 := hF 4 _ _ rfl rfl; have f7 := hF 3 _ _ rfl rfl; have f8 := hF 2 _ _ rfl rfl; have f9 := hF 1 _ _ rfl rfl; have f10 := hF 0 _ _ rfl rfl; clear hF
            go_simp
            exact hK _ _ (Below.refl _ _) rfl
          refine Plan.nil (fun vs x hR hF => ?_)
          have f0 := hF 11 _ _ rfl; have f1 := hF 10 _ _ rfl; have f2 := hF 9 _ _ rfl; have f3 := hF 8 _ _ rfl; have f4 := hF 7 _ _ rfl; have f5 := hF 6 _ _ rfl; have f6 := hF 5 _ _ rfl; have f7 := hF 4 _ _ rfl; have f8 := hF 3 _ _ rfl; have f9 := hF 2 _ _ rfl; have f10 := hF 1 _ _ rfl; have f11 := hF 0 _ _ rfl
          clear hF
          simp only [f0, f1, f2, f3, f4, f5, f6, f7, f8, f9, f10, f11]
          clear f0 f1 f2 f3 f4 f5 f6 f7 f8 f9 f10 f11
          simp only [List.drop_succ_cons, List.drop_zero]
          obtain ⟨g', c', f', e1, q1, q2, q3, q4, q5, q6⟩ := HC.out x hR
          have e2 : g' = g := by have h := e1.symm.trans HK0.out; exact Option.some.inj h
          subst e2
          have q7 := q4.c7i
          have q8 := q5 (kk * 7 + 5)
          have HQ6 := hid q6
          have HRX := hid hR
          clear q1 q4 q5 q6 hR HC2 HC
          go_wp2_with fail
          go_roundw
          case rel =>
            have hfx : FrB BB go2 wr (x.setCell ⟨g', kk * 7 + 5, none⟩ (.int .i64 (L2.length : Nat))) := by
              rw [HK0.out]
              exact (FrB.of_below ((Below.refl _ wr).drew.trans HRX.out)).trans (.inl rfl) (FrB.set _ _)
            exact ⟨m + 1, by go_num, by omega, HQ6.out, hjq.out.frb hfx (by omega) HAP.out, hfq.out.trans HG1.out hfx⟩
          case measure => simp [intOf]; omega
        · obtain rfl : m = J.length := by omega
          rw [List.take_of_length_le (Nat.le_refl _)] at hbq
          go_wp2_with fail
          go_end0
          exact ⟨_, _, rfl, HSE.out, go2, hbq.out, HG1.out, hfq.out⟩
    · have hnl : k + 1 < xs.length := by
        have h : ¬ ((k : Int) = (xs.length : Int) - 1) := by simpa using dk
        omega
      have HSP := hid (split_any BB L' ov' _ go' HBA.out)
      clear hfull
      go_wp2_with (first | (with_reducible (refine wpList_load_agg rfl 28 _ rfl b (o + (k * 9)) rfl _ _ HC.out Tryd.underlying28 rfl (size_re9 _ _ _ _ _ _ _ _ _) ?_)))
      refine HSP.out.mono ?_
      unfold BPost
      rintro e w1 ⟨rfl, go1, hb1, hg1, hf1⟩
      have hsz : w.heap.size ≤ wr.heap.size := HX.out.2.2.2.size
      have HBA1 := hid hb1
      have HG1 : Hid (GoTo w go go1) := HX.out.2.2.1.trans (by simp; omega) hg1
      have HF1 : Hid (FrB BB go w w1) := HFA.out.trans HX.out.2.2.1 hf1
      have HJ1 : Hid (OwnJ w1 w.heap.size (.slice a J.length c) J) := HJA.out.frb hf1 (by omega) (HBA.out.apart HJA.out)
      have HBR1 : Hid (Below wb.heap.size wb w1) := HBW.out.trans (HF1.out.below HBW.out.size hwb HOG.out)
      have HEL1 : Hid (Row w1 wr.heap.size [.int .i64 p'.op, .int .u64 p'.set.a, .int .u64 p'.set.b, .int .u64 p'.set.c, .int .u64 p'.set.d, .int .i64 p'.lo, .int .i64 p'.hi, .int .i64 p'.gr, .slice ad' n' cap'] 28) := (hf1.block wr.heap.size (by simp) (by have := HX.out.2.1.lt; omega) (fun e => by
        rcases HX.out.2.1 with ⟨a2, c2, -, k2, -, k4⟩
        have := k2.lt wr.heap.size (k4.trans e)
        omega)).trans HEL.out
      have HTC := hid (HT.out k hk w1 _ go1 (splitL L') (addO L' ov') HI0.out HBR1.out hb1 (fun e => by
        rw [splitL_len]
        unfold addO at e
        unfold addL
        by_cases hf : 4096 ≤ L'.length
        · rw [if_pos hf]; omega
        · rw [if_neg hf] at e
          have := HA.out.full e
          omega))
      have HCE1 := hid (CellsAt.of_row HEL1.out)
      have HB1 : Hid (BldAt wr BB go' L' ov' ∧ L'.length ≤ 4096) := ⟨HX.out.2.1, hl'⟩
      clear hb1 hg1 hf1 HSP HX HBA HJA HFA HEL hl' HBR HBRA HI0 HC
      go_wp2_with (first | (with_reducible (refine wpList_load_agg rfl 28 _ rfl wr.heap.size 0 rfl _ _ HCE1.out Tryd.underlying28 rfl (size_re9 _ _ _ _ _ _ _ _ _) ?_)))
      refine HTC.out.mono ?_
      unfold TPost BPost
      rintro e w2 ⟨L2, o2, rfl, hs2, go2, hb2, hg2, hf2⟩
      have hl2 := hb2.len
      have hJk : J.length ≤ k := by rw [HA.out.jl]; exact Nat.le_refl _
      have HAS := hid (alt_step HA.out (by omega) HB1.out.2 hs2 hl2)
      have hkl : addK L' < (addL L2 (ijump 0)).length := by
        have h1 := (addL_len L' (isplit 0 0) HB1.out.2).1
        have h2 := splitL_len L'
        have h3 := hs2.len
        have h4 : L2.length ≤ (addL L2 (ijump 0)).length := by unfold addL; split <;> simp
        omega
      have HG2 : Hid (GoTo w go go2) := HG1.out.trans HF1.out.size hg2
      have HF2 : Hid (FrB BB go w w2) := HF1.out.trans HG1.out hf2
      have HJ2 : Hid (OwnJ w2 w.heap.size (.slice a J.length c) J) := HJ1.out.frb hf2 (by omega) (HBA1.out.apart HJ1.out)
      have HAD := hid (addLit_any BB 3 0 0 L2 o2 w2 go2 hb2)
      have HBA2 := hid hb2
      clear hs2 hb2 hg2 hf2 HTC HJ1 HBA1 HF1 HG1 HEL1 HCE1 HBR1 HA
      go_wp2_with fail
      refine HAD.out.mono ?_
      unfold BPost
      rintro e w3 ⟨rfl, go3, hb3, hg3, hf3⟩
      have HG3 : Hid (GoTo w go go3) := HG2.out.trans HF2.out.size hg3
      have HF3 : Hid (FrB BB go w w3) := HF2.out.trans HG2.out hf3
      have HJ3 : Hid (OwnJ w3 w.heap.size (.slice a J.length c) J) := HJ2.out.frb hf3 (by omega) (HBA2.out.apart HJ2.out)
      have HBA3 := hid hb3
      have hz3 : w.heap.size ≤ w3.heap.size := HF3.out.size
      obtain ⟨i0, hi, hz0, hz1, hz2⟩ := info_parts info_j
      clear hb3 hg3 hf3 HAD HJ2 HBA2 HF2 HG2
      go_wp2_with (at_builtin; refine wpList_append_row rfl _ _ 43 rfl w.heap.size 3 i0 (.int .i64 0) 1 8 Tryd.underlying43 hi hz0 hz1 hz2 rfl (by decide) _ J.length (J.map fun j => .int .i64 (j : Nat)) rfl (by have h := HJ3.out.below ((Below.refl _ w3).alloc (Nat.le_refl _) (.cells #[.int .i64 (addK L2 : Nat)] 3)); exact h) ⟨w3.heap.size, 0, none⟩ 1 1 [.int .i64 (addK L2 : Nat)] rfl rfl ?c1 ?c2 ?c3 ?c4 ?c5 (by decide) ?_)
      case c1 =>
        intro j u hj
        rw [Addr.add_lit, Nat.zero_add]
        exact (Row.new (w := w3) (cs := [.int .i64 (addK L2 : Nat)]) (T := 3) rfl).cell j ▸ hj
      case c2 => intro u hu; simp at hu; subst hu; rfl
      case c3 => unfold maxLen; omega
      case c4 => omega
      case c5 => simp; omega
      intro a2 c2 w4 hown hgrow hnw
      have hown' : OwnJ w4 w.heap.size (.slice a2 (J.length + 1) c2) (J ++ [addK L2]) := by
        unfold OwnJ
        simpa using hown
      have hrow : ∀ g, (Value.slice a J.length c).ownBlock = some g → w.heap.size ≤ g := fun g hg => (HJ3.out.lt g hg).1
      have hge : GoTo w go go3 := HG3.out
      have hb4 : BldAt w4 BB go3 (addL L2 (ijump 0)) (addO L2 o2) := (HBA3.out.below ((Below.refl w3.heap.size w3).alloc (Nat.le_refl _) _)).grown hgrow (fun e => by have := hrow BB e; omega) (fun g hg e => HBA3.out.apart HJ3.out g e hg)
      have hf4 : FrB BB go w w4 := FrB.grown (HF3.out.trans HG3.out (FrB.of_below ((Below.refl w3.heap.size w3).alloc (Nat.le_refl _) _))) hgrow hrow
      have HB4 := hid hb4
      have HF4 := hid hf4
      have HJ4 := hid hown'
      clear hown hgrow hnw hown' hrow hge hb4 hf4 HBA3 HF3 HJ3
      have HC : Hid (∀ x, Below w4.heap.size w4.drew x → ∃ (g c : Nat) (f : Inst), go3 = some g ∧ Row x BB [.slice (some ⟨g, 0, none⟩) (addL L2 (ijump 0)).length c, .bool (addO L2 o2)] 60 ∧ BB + 1 ≤ g ∧ g < x.heap.size ∧ CellsAt x g (addK L' * 7) f.cells ∧ (∀ i, x.frozen? ⟨g, i, none⟩ = false) ∧ BldAt (x.setCell ⟨g, addK L' * 7 + 6, none⟩ (.int .i64 ((addL L2 (ijump 0)).length : Nat))) BB go3 (setY (addL L2 (ijump 0)) (addK L') ((addL L2 (ijump 0)).length : Nat)) (addO L2 o2)) := fun x hx => by
        obtain ⟨g, c, f, k0, k1, k2, k3, k4, k5, k6, k7⟩ := (HB4.out.below ((Below.refl _ w4).drew.trans hx)).opens (addK L') hkl
        exact ⟨g, c, f, k0, k1, k2, k3, k4, k5, k7 _⟩
      obtain ⟨g, c0, f0, k0, k1, -, -, -, -, -⟩ := HC.out w4.drew (Below.refl _ _)
      have HC2 : Hid (∀ x, Below w4.heap.size w4.drew x → x.cell? ⟨BB, 0, none⟩ = some (.slice (some ⟨g, 0, none⟩) (addL L2 (ijump 0)).length c0)) := fun x hx => by
        have hz := HB4.out.lt
        exact (k1.below hx hz).cell 0
      have HK0 := hid k0
      have HAP := hid (HB4.out.apart HJ4.out)
      have hl4 := HB4.out.len
      clear k1 k0
      have HN : Hid (∀ z : Int, (⟨3, Cs.none, z, 0⟩ : Inst) = ijump z) := fun z => rfl
      generalize addL L2 (ijump 0) = L4 at *
      generalize addK L' = kk at *
      go_wp2_with fail
      refine wp_region_inv 12 (Below w4.heap.size) (by kernel_rfl) (by kernel_rfl) (Below.refl _) (fun _ _ _ => Below.trans) ?_
      simp only [fill, dstOf, Act.put, List.take_succ_cons, List.take_zero, List.getElem?_toArray, List.getElem?_cons_zero, List.getElem?_cons_succ, Option.bind_some, List.setIfInBounds_toArray, List.set_cons_zero, List.set_cons_succ]
      refine Plan.det 1 rfl (Below.refl _) ?_
      apply Exists.intro
      refine ⟨fun vs x hR hF K hK => ?_, ?_⟩
      · clear hF
        go_simp
        exact hK _ _ (Below.refl _ _) rfl
      refine Plan.det 2 rfl (Below.refl _) ?_
      apply Exists.intro
      refine ⟨fun vs x hR hF K hK => ?_, ?_⟩
      · have f0 := hF 0 _ _ rfl rfl; clear hF
        go_simp
        exact hK _ _ (Below.refl _ _) rfl
      refine Plan.det 3 rfl (Below.refl _) ?_
      apply Exists.intro
      refine ⟨fun vs x hR hF K hK => ?_, ?_⟩
      · have f1 := hF 0 _ _ rfl rfl; clear hF
        go_simp
        exact hK _ _ (Below.refl _ _) rfl
      refine Plan.det 4 rfl (Below.refl _) ?_
      apply Exists.intro
      refine ⟨fun vs x hR hF K hK => ?_, ?_⟩
      · have f2 := hF 0 _ _ rfl rfl; have hc := HC2.out x hR; clear hF
        go_simp
        exact hK _ _ (Below.refl _ _) rfl
      refine Plan.det 5 rfl (Below.refl _) ?_
      apply Exists.intro
      refine ⟨fun vs x hR hF K hK => ?_, ?_⟩
      · clear hF
        go_simp
        exact hK _ _ (Below.refl _ _) rfl
      refine Plan.det 6 rfl (Below.refl _) ?_
      apply Exists.intro
      refine ⟨fun vs x hR hF K hK => ?_, ?_⟩
      · clear hF
        go_simp
        exact hK _ _ (Below.refl _ _) rfl
      refine Plan.det 7 rfl (Below.refl _) ?_
      apply Exists.intro
      refine ⟨fun vs x hR hF K hK => ?_, ?_⟩
      · have f5 := hF 0 _ _ rfl rfl; clear hF
        go_simp
        exact hK _ _ (Below.refl _ _) rfl
      refine Plan.det 8 rfl (Below.refl _) ?_
      apply Exists.intro
      refine ⟨fun vs x hR hF K hK => ?_, ?_⟩
      · have f6 := hF 0 _ _ rfl rfl; clear hF
        go_simp
        exact hK _ _ (Below.refl _ _) rfl
      refine Plan.det 9 rfl (Below.refl _) ?_
      apply Exists.intro
      refine ⟨fun vs x hR hF K hK => ?_, ?_⟩
      · have f7 := hF 0 _ _ rfl rfl; have hc := HC2.out x hR; clear hF
        go_simp
        exact hK _ _ (Below.refl _ _) rfl
      refine Plan.det 10 rfl (Below.refl _) ?_
      apply Exists.intro
      refine ⟨fun vs x hR hF K hK => ?_, ?_⟩
      · have f8 := hF 0 _ _ rfl rfl; clear hF
        go_simp
        exact hK _ _ (Below.refl _ _) rfl
      refine Plan.det 11 rfl (Below.refl _) ?_
      apply Exists.intro
      refine ⟨fun vs x hR hF K hK => ?_, ?_⟩
      · have f0 := hF 9 _ _ rfl rfl; have f1 := hF 8 _ _ rfl rfl; have f2 := hF 7 _ _ rfl rfl; have f3 := hF 6 _ _ rfl rfl; have f4 := hF 5 _ _ rfl rfl; have f5 := hF 4 _ _ rfl rfl; have f6 := hF 3 _ _ rfl rfl; have f7 := hF 2 _ _ rfl rfl; have f8 := hF 1 _ _ rfl rfl; have f9 := hF 0 _ _ rfl rfl; clear hF
        go_simp
        exact hK _ _ (Below.refl _ _) rfl
      refine Plan.det 12 rfl (Below.refl _) ?_
      apply Exists.intro
      refine ⟨fun vs x hR hF K hK => ?_, ?_⟩
      · have f0 := hF 10 _ _ rfl rfl; have f1 := hF 9 _ _ rfl rfl; have f2 := hF 8 _ _ rfl rfl; have f3 := hF 7 _ _ rfl rfl; have f4 := hF 6 _ _ rfl rfl; have f5 := hF 5 _ _ rfl rfl; have f6 := hF 4 _ _ rfl rfl; have f7 := hF 3 _ _ rfl rfl; have f8 := hF 2 _ _ rfl rfl; have f9 := hF 1 _ _ rfl rfl; have f10 := hF 0 _ _ rfl rfl; clear hF
        go_simp
        exact hK _ _ (Below.refl _ _) rfl
      refine Plan.nil (fun vs x hR hF => ?_)
      have f0 := hF 11 _ _ rfl; have f1 := hF 10 _ _ rfl; have f2 := hF 9 _ _ rfl; have f3 := hF 8 _ _ rfl; have f4 := hF 7 _ _ rfl; have f5 := hF 6 _ _ rfl; have f6 := hF 5 _ _ rfl; have f7 := hF 4 _ _ rfl; have f8 := hF 3 _ _ rfl; have f9 := hF 2 _ _ rfl; have f10 := hF 1 _ _ rfl; have f11 := hF 0 _ _ rfl
      clear hF
      simp only [f0, f1, f2, f3, f4, f5, f6, f7, f8, f9, f10, f11]
      clear f0 f1 f2 f3 f4 f5 f6 f7 f8 f9 f10 f11
      simp only [List.drop_succ_cons, List.drop_zero]
      obtain ⟨g', c', f', e1, q1, q2, q3, q4, q5, q6⟩ := HC.out x hR
      have e2 : g' = g := by have h := e1.symm.trans HK0.out; exact Option.some.inj h
      subst e2
      have q7 := q4.c7i
      have q8 := q5 (kk * 7 + 6)
      have HQ6 := hid q6
      have HRX := hid hR
      clear q1 q4 q5 q6 hR HC2 HC
      go_wp2_with fail
      go_roundw
      case rel =>
        have hfx : FrB BB go3 w4 (x.setCell ⟨g', kk * 7 + 6, none⟩ (.int .i64 (L4.length : Nat))) := by
          rw [HK0.out]
          exact (FrB.of_below ((Below.refl _ w4).drew.trans HRX.out)).trans (.inl rfl) (FrB.set _ _)
        exact ⟨k + 1, go3, _, _, J ++ [addK L2], a2, c2, hnl, by simp, by go_num, HAS.out, by rw [List.length_append]; exact HJ4.out.frb hfx (by omega) HAP.out, HQ6.out, HG3.out, HF4.out.trans HG3.out hfx⟩
      case measure => simp [intOf]; omega
end Go.Proofs.YthnpbopnpdlmnaaDoor
