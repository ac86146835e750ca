/- The reference's reached. -/
import Derived.Test.YtnjcfggadeakpaaG30
import Derived.Test.YtnjcfggadeakpaaG02
import Derived.Great.BuildSlice
namespace Go.Proofs.Ytnjcfggadeakpaa
open Go.RowKit
attribute [local go_sem] gives givesUpon

/-- The marks behind a byte: those of the first q instructions. -/
def Aft (m : Sim) (i : Nat) (mk mka : Nat → Bool) (q : Nat) : Prop := ∀ j, mka j = true ↔ ∃ x, x < q ∧ mk x = true ∧ m.takes i x ∧ j = x + 1
theorem info_boolT : (Try.prog.info? 4).map (fun i => (i.zero, i.size, i.bytes)) = some (some (.bool false), 1, 1) := by kernel_rfl
theorem Aft.begin (m : Sim) (i : Nat) (mk : Nat → Bool) : Aft m i mk (fun _ => false) 0 := by
  intro j
  constructor
  · intro h; cases h
  · rintro ⟨x, h, -⟩; omega
theorem Aft.skip {m : Sim} {i : Nat} {mk mka : Nat → Bool} {q : Nat} (h : Aft m i mk mka q) (hn : ¬ (mk q = true ∧ m.takes i q)) : Aft m i mk mka (q + 1) := fun j => by
  rw [h j]
  constructor
  · rintro ⟨x, h1, h2⟩; exact ⟨x, by omega, h2⟩
  · rintro ⟨x, h1, h2, h3, h4⟩
    rcases Nat.lt_or_ge x q with h5 | h5
    · exact ⟨x, h5, h2, h3, h4⟩
    · obtain rfl : x = q := by omega
      exact absurd ⟨h2, h3⟩ hn
theorem Aft.take {m : Sim} {i : Nat} {mk mka : Nat → Bool} {q : Nat} (h : Aft m i mk mka q) (h1 : mk q = true) (h2 : m.takes i q) : Aft m i mk (updB mka (q + 1)) (q + 1) := fun j => by
  rw [updB_true, h j]
  constructor
  · rintro (rfl | ⟨x, h3, h4⟩)
    · exact ⟨q, by omega, h1, h2, rfl⟩
    · exact ⟨x, by omega, h4⟩
  · rintro ⟨x, h3, h4, h5, h6⟩
    rcases Nat.lt_or_ge x q with h7 | h7
    · exact .inr ⟨x, h7, h4, h5, h6⟩
    · obtain rfl : x = q := by omega
      exact .inl h6
theorem Aft.end {m : Sim} {f i : Nat} {mk mka mk2 : Nat → Bool} {n : Nat} (h : Aft m i mk mka n) (hf : f ≤ i) (hmk : ∀ k, mk k = true ↔ m.R f (i - f) k) (hn : ∀ k, m.R f (i - f) k → k < n) (h2 : ∀ k, mk2 k = true ↔ m.Reach (i + 1) (fun j => mka j = true) k) (k : Nat) : mk2 k = true ↔ m.R f (i + 1 - f) k := by
  rw [h2, show i + 1 - f = (i - f) + 1 by omega]
  show _ ↔ m.Reach (f + (i - f + 1)) (fun k => ∃ j, m.R f (i - f) j ∧ m.takes (f + (i - f)) j ∧ k = j + 1) k
  rw [show f + (i - f + 1) = i + 1 by omega, show f + (i - f) = i by omega]
  constructor
  · refine Sim.Reach.mono fun j hj => ?_
    obtain ⟨x, -, h3, h4, h5⟩ := (h j).1 hj
    exact ⟨x, (hmk x).1 h3, h4, h5⟩
  · refine Sim.Reach.mono fun j ⟨x, h3, h4, h5⟩ => ?_
    exact (h j).2 ⟨x, hn x h3, (hmk x).2 h3, h4, h5⟩
theorem Aft.lt {m : Sim} (hR : rightAll m.L) {i : Nat} {mk mka : Nat → Bool} {n : Nat} (h : Aft m i mk mka n) (hn : n ≤ m.L.length) (k : Nat) (hk : mka k = true) : k < m.L.length := by
  obtain ⟨x, h1, -, h3, rfl⟩ := (h k).1 hk
  exact Sim.takes_lt hR (by omega) h3
set_option maxRecDepth 100000 in
set_option maxHeartbeats 16000000 in
theorem reached_any (w : World) (m : Sim) (a : Option Addr) (c : Nat) (str : ByteArray) (f d : Nat) (env : Env2 w m a str) (hwf : ∀ k (h : k < m.L.length), m.L[k].set.wf) (hfd : f ≤ d) (hd : d ≤ str.size) :
    Calls Try.prog 27 #[.agg #[.slice a m.L.length c, .bool m.lines], .string str, .int .i64 f, .int .i64 d] w fun e w' => ∃ (G : Nat) (mk : Nat → Bool), e = .returned (.slice (some ⟨G, 0, none⟩) m.L.length m.L.length) ∧ Row w' G (boolRow mk m.L.length) 4 ∧ (∀ k, mk k = true ↔ m.R f (d - f) k) ∧ w.heap.size ≤ G ∧ Below w.heap.size w w' := by
  have hn1 := env.right.1
  have hshort := env.short
  have HBX : Hid (Row (w.alloc (.cells #[.slice a m.L.length c, .bool m.lines] 24)) w.heap.size [.slice a m.L.length c, .bool m.lines] 24) := Row.at w [.slice a m.L.length c, .bool m.lines] _
  have HB0 : Hid (Below w.heap.size w (w.alloc (.cells #[.slice a m.L.length c, .bool m.lines] 24))) := Grow.alloc w _
  have HE : Hid (Env2 (w.alloc (.cells #[.slice a m.L.length c, .bool m.lines] 24)) m a str) := ⟨env.ins.below HB0.out (Nat.le_refl _), env.right, env.s, env.short⟩
  have HWF := hid hwf
  have HPP : Hid (∀ (G : Nat) (mk : Nat → Bool) w', Row w' G (boolRow mk m.L.length) 4 → (∀ k, mk k = true ↔ m.R f (d - f) k) → w.heap.size ≤ G → Below w.heap.size w w' → ∃ (G' : Nat) (mk : Nat → Bool), Ending.returned (.slice (some ⟨G, 0, none⟩) m.L.length m.L.length) = .returned (.slice (some ⟨G', 0, none⟩) m.L.length m.L.length) ∧ Row w' G' (boolRow mk m.L.length) 4 ∧ (∀ k, mk k = true ↔ m.R f (d - f) k) ∧ w.heap.size ≤ G' ∧ Below w.heap.size w w') := fun G mk w' h1 h2 h3 h4 => ⟨G, mk, rfl, h1, h2, h3, h4⟩
  clear env hwf
  obtain ⟨i2, hi2, hz0, hz1, hz2⟩ := info_parts info_boolT
  have hmk2 : ∀ y : World, (Instr.makeSlice 69 (.int .i64 (m.L.length : Int)) (.int .i64 (m.L.length : Int))).run Try.prog y = .ok (.slice (some ⟨y.heap.size, 0, none⟩) m.L.length m.L.length) (y.alloc (.cells (boolRow (fun _ => false) m.L.length).toArray 4)) := fun y => by
    have h := run_makeSlice (P := Try.prog) y 69 4 i2 _ Try.underlying69 hi2 hz0 .i64 .i64 m.L.length m.L.length (by omega) (by omega) (by rw [hz1]; simp; omega) (by rw [hz2]; omega) (by omega)
    rw [hz1] at h
    have e : madeCells (Value.bool false).cells ((m.L.length : Int).toNat * 1) = (boolRow (fun _ => false) m.L.length).toArray := by
      rw [boolRow_false, ← toList_madeCells_one]; simp [Value.cells]
    rw [e] at h
    simpa using h
  clear hi2 hz0 hz1 hz2
  go_enter Try.func27, Try.ntmps27
  go_upto_region 1 with fail
  generalize w.alloc (.cells #[.slice a m.L.length c, .bool m.lines] 24) = w1 at *
  have q : w1.cell? ⟨w.heap.size, 0, none⟩ = some (.slice a m.L.length c) ∧ w1.cell? ⟨w.heap.size, 1, none⟩ = some (.bool m.lines) := ⟨HBX.out.cell 0, HBX.out.cell 1⟩
  have HBL := hid HBX.out.lt
  have hbl := HBX.out.lt
  have hR1 : Row (w1.alloc (.cells (boolRow (fun _ => false) m.L.length).toArray 4)) w1.heap.size (boolRow (fun _ => false) m.L.length) 4 := Row.at w1 _ _
  have hB1 : Below w1.heap.size w1 (w1.alloc (.cells (boolRow (fun _ => false) m.L.length).toArray 4)) := Grow.alloc w1 _
  go_upto_region 2 with fail
  generalize w1.alloc (.cells (boolRow (fun _ => false) m.L.length).toArray 4) = y at *
  have hf1 := hR1.free 0
  have hl1 := hR1.lt
  have hc1 : y.cell? ⟨w1.heap.size, 0, none⟩ = some (.bool false) := (hR1.cell 0).trans (boolRow_get (by omega))
  have h0I : (0 : Int) < (m.L.length : Int) := by omega
  have hR2 : Row (y.setCell ⟨w1.heap.size, 0, none⟩ (.bool true)) w1.heap.size (boolRow (updB (fun _ => false) 0) m.L.length) 4 := by
    have h := hR1.set 0 (.bool true)
    rw [boolRow_set] at h
    exact h
  have hB2 : Below w1.heap.size w1 (y.setCell ⟨w1.heap.size, 0, none⟩ (.bool true)) := hB1.setCell (Nat.le_refl _) _
  go_upto_region 3 with fail
  clear hf1 hl1 hc1 hR1 hB1
  generalize y.setCell ⟨w1.heap.size, 0, none⟩ (.bool true) = y2 at *
  have HBX2 := hid (HBX.out.below hB2 HBL.out)
  have q2 : y2.cell? ⟨w.heap.size, 0, none⟩ = some (.slice a m.L.length c) ∧ y2.cell? ⟨w.heap.size, 1, none⟩ = some (.bool m.lines) := ⟨HBX2.out.cell 0, HBX2.out.cell 1⟩
  have HCL := hid (closed_any w1 y2 m a c str f w1.heap.size m.L.length (updB (fun _ => false) 0) HE.out hB2 (Nat.le_refl _) hR2 (fun k hk => by rcases updB_true.1 hk with h | h; omega; cases h) (by omega))
  have HB2 := hid hB2
  clear q hR2 hB2
  generalize hbw : w.heap.size = b0 at *
  go_wp2_with fail
  refine HCL.out.mono ?_
  rintro e w3 ⟨rfl, mk0, hr3, hm3, hb3⟩
  have HR3 := hid hr3
  have HM3 : Hid (∀ k, mk0 k = true ↔ m.R f (f - f) k) := by
    intro k
    rw [hm3 k, Nat.sub_self]
    show m.Reach f _ k ↔ m.Reach f _ k
    have e : (fun j => updB (fun _ => false) 0 j = true) = (fun j => j = 0) := by
      funext j
      rw [updB_true]
      simp
    rw [e]
  have HB3 := hid (below_but HB2.out hb3 (Nat.le_refl _) HB2.out.size)
  clear hr3 hm3 hb3 HCL q2 HBX2
  generalize hg0 : w1.heap.size = G0 at *
  go_wp2_with fail
  go_loopw [9, 10] (fun vm vi wr => ∃ (i G : Nat) (mk : Nat → Bool), f ≤ i ∧ i ≤ d ∧ vi = .int .i64 i ∧ vm = .slice (some ⟨G, 0, none⟩) m.L.length m.L.length ∧ Hid (Row wr G (boolRow mk m.L.length) 4 ∧ (∀ k, mk k = true ↔ m.R f (i - f) k) ∧ G0 ≤ G ∧ Below G0 w1 wr)) (fun _ vi _ => d - (intOf vi).toNat)
  case atStart => exact ⟨f, G0, mk0, Nat.le_refl _, hfd, rfl, rfl, HR3.out, HM3.out, Nat.le_refl _, HB3.out⟩
  case round =>
    obtain ⟨i, G, mk, hfi, hid1, rfl, rfl, HX⟩ := hrel
    rcases Nat.lt_or_ge i d with hlt | hge
    case inr =>
      obtain rfl : i = d := by omega
      go_wp2_with fail
      go_ret
      subst hbw hg0
      have h1 := HBL.out
      exact HPP.out G mk _ HX.out.1 HX.out.2.1 (by have := HX.out.2.2.1; omega) (HB0.out.trans (HX.out.2.2.2.mono HB0.out.size))
    have HBX3 := hid (HBX.out.below HX.out.2.2.2 HBL.out)
    have q3 : wr.cell? ⟨b0, 0, none⟩ = some (.slice a m.L.length c) ∧ wr.cell? ⟨b0, 1, none⟩ = some (.bool m.lines) := ⟨HBX3.out.cell 0, HBX3.out.cell 1⟩
    have hR5 : Row (wr.alloc (.cells (boolRow (fun _ => false) m.L.length).toArray 4)) wr.heap.size (boolRow (fun _ => false) m.L.length) 4 := Row.at wr _ _
    have hB5 : Below wr.heap.size wr (wr.alloc (.cells (boolRow (fun _ => false) m.L.length).toArray 4)) := Grow.alloc wr _
    have hz5 : (wr.alloc (.cells (boolRow (fun _ => false) m.L.length).toArray 4)).heap.size = wr.heap.size + 1 := by simp
    have HGL : Hid (G < wr.heap.size) := HX.out.1.lt
    have HG0 : Hid (G0 ≤ wr.heap.size) := Nat.le_trans HX.out.2.2.1 (Nat.le_of_lt HGL.out)
    go_upto_region 8 with fail
    generalize hy5 : wr.alloc (.cells (boolRow (fun _ => false) m.L.length).toArray 4) = y5 at *
    have HR5 := hid hR5
    have HX5 : Hid (Row y5 G (boolRow mk m.L.length) 4 ∧ Below G0 w1 y5) := ⟨HX.out.1.below hB5 HGL.out, HX.out.2.2.2.trans (hB5.mono HG0.out)⟩
    have hmk := HX.out.2.1
    have HMK := hid hmk
    have HGG := hid HX.out.2.2.1
    clear hR5 hB5 q3 hy5 HBX3 hmk HX
    generalize hg5 : wr.heap.size = G5 at *
    go_wp2_with fail
    go_loopw [12] (fun vk wr => ∃ (k : Nat) (mka : Nat → Bool), k ≤ m.L.length ∧ vk = .int .i64 k ∧ Hid (Row wr G5 (boolRow mka m.L.length) 4 ∧ Aft m i mk mka k ∧ But [G5] y5 wr)) (fun vk _ => m.L.length - (intOf vk).toNat)
    case atStart => exact ⟨0, fun _ => false, by omega, rfl, HR5.out, Aft.begin _ _ _, But.refl _ _⟩
    case round =>
      obtain ⟨k, mka, hk, rfl, HY⟩ := hrel
      have HX6 : Hid (Row wr G (boolRow mk m.L.length) 4 ∧ Below G0 w1 wr) := by
        have hgl := HGL.out
        refine ⟨HX5.out.1.but HY.out.2.2 (by simp; omega), below_but HX5.out.2 HY.out.2.2 HG0.out ?_⟩
        rw [hz5]
        have := HG0.out
        omega
      have HBX6 := hid (HBX.out.below HX6.out.2 HBL.out)
      rcases Nat.lt_or_ge k m.L.length with hkl | hkg
      case inr =>
        obtain rfl : k = m.L.length := by omega
        have q6 : wr.cell? ⟨b0, 0, none⟩ = some (.slice a m.L.length c) ∧ wr.cell? ⟨b0, 1, none⟩ = some (.bool m.lines) := ⟨HBX6.out.cell 0, HBX6.out.cell 1⟩
        have HC6 := hid (closed_any w1 wr m a c str (i + 1) G5 m.L.length mka HE.out (by rw [hg0]; exact HX6.out.2) (by rw [hg0]; exact HG0.out) HY.out.1 (HY.out.2.1.lt HE.out.right (Nat.le_refl _)) (by omega))
        have HAF := HY.out.2.1
        have HY6 : Hid (But [G5] y5 wr) := HY.out.2.2
        have HAE := hid HAF
        clear HAF
        go_wp2_with fail
        refine HC6.out.mono ?_
        rintro e w7 ⟨rfl, mk7, hr7, hm7, hb7⟩
        have HR7 := hid hr7
        have HM7 := hid (HAE.out.end hfi HMK.out (fun k hk => Sim.R_lt HE.out.right f _ k hk) hm7)
        have HB7 := hid (below_but HX6.out.2 hb7 HG0.out (by have h1 := HX6.out.2.size; have h2 := HX6.out.1.lt; have := HGG.out; omega))
        clear hr7 hm7 hb7 HC6 q6
        go_wp2_with fail
        all_goals
          refine ⟨⟨i + 1, G5, mk7, by omega, hlt, rfl, rfl, HR7.out, HM7.out, HG0.out, HB7.out⟩, ?_⟩
          show d - ((i : Int) + 1).toNat < d - (i : Int).toNat
          omega
      have HGX : Hid (G5 < wr.heap.size) := HY.out.1.lt
      obtain ⟨fb, fo, hfa, hfb, hfc⟩ := (HE.out.ins.below (by rw [hg0]; exact HX6.out.2) (Nat.le_refl _)).at hkl
      subst hfa
      have hwfk := HWF.out k hkl
      have HIN : Hid (m.inst k = m.L[k]) := Sim.inst_eq hkl
      generalize m.L[k] = ff at *
      obtain ⟨fop, fset, fx, fy⟩ := ff
      have HWK := hid hwfk
      have HF2 : Hid (CellsAt wr fb (fo + k * 7) [.int .i64 fop, .int .u64 fset.a, .int .u64 fset.b, .int .u64 fset.c, .int .u64 fset.d, .int .i64 fx, .int .i64 fy]) := hfc
      have HFB : Hid (fb < wr.heap.size) := hfb
      have HTK : Hid (m.takes i k ↔ fop = 1 ∧ fset.has (m.byte i) = true) := by
        show _ ↔ _
        unfold Sim.takes
        rw [HIN.out]
      have his : i < str.size := by omega
      have hbyte := byte_eq HE.out.s his
      rw [hbyte] at HTK
      clear hfc hfb hwfk hbyte
      have hkI : (k : Int) < (m.L.length : Int) := by omega
      have hiI : (i : Int) < (str.size : Int) := by omega
      go_upto_region 11 with fail
      have HC := hid (fun (x : World) (hx : Grow wr.drew x) => (show (x.cell? ⟨b0, 0, none⟩ = some (.slice (some ⟨fb, fo, none⟩) m.L.length c)) ∧ (x.cell? ⟨G, k, none⟩ = some (.bool (mk k))) ∧ (x.cell? ⟨fb, fo + k * 7, none⟩ = some (.int .i64 fop) ∧ x.cell? ⟨fb, fo + k * 7 + 1, none⟩ = some (.int .u64 fset.a) ∧ x.cell? ⟨fb, fo + k * 7 + 2, none⟩ = some (.int .u64 fset.b) ∧ x.cell? ⟨fb, fo + k * 7 + 3, none⟩ = some (.int .u64 fset.c) ∧ x.cell? ⟨fb, fo + k * 7 + 4, none⟩ = some (.int .u64 fset.d)) from by
        have hb : Below wr.heap.size wr x := ⟨hx.os, hx.tape, hx.output, hx.size, hx.block⟩
        have hq := cells7 (show CellsAt x fb (fo + k * 7) [.int .i64 fop, .int .u64 fset.a, .int .u64 fset.b, .int .u64 fset.c, .int .u64 fset.d, .int .i64 fx, .int .i64 fy] from fun j v hj => by
          rw [hb.cell (p := ⟨fb, fo + k * 7 + j, none⟩) HFB.out]
          exact HF2.out j v hj)
        exact ⟨(HBX6.out.below hb HBX6.out.lt).cell 0, ((HX6.out.1.below hb HX6.out.1.lt).cell k).trans (boolRow_get hkl), hq.1, hq.2.1, hq.2.2.1, hq.2.2.2.1, hq.2.2.2.2.1⟩))
      rcases hmk : mk k with _ | _
      · rw [hmk] at HC
        refine wp_region_inv 25 (Grow) (by kernel_rfl) (by kernel_rfl) (Grow.refl) (fun _ _ _ => Grow.trans) ?_
        simp only [fill, dstOf, Act.put, List.take_succ_cons, List.take_zero, List.getElem?_toArray, List.getElem?_cons_zero, List.getElem?_cons_succ, Option.bind_some, List.setIfInBounds_toArray, List.set_cons_zero, List.set_cons_succ]
        refine Plan.det 1 rfl (Grow.refl) ?_
        apply Exists.intro
        refine ⟨fun vs x hR hF K hK => ?_, ?_⟩
        · clear hF
          go_simp
          exact hK _ _ (Grow.refl _) rfl
        refine Plan.det 2 rfl (Grow.refl) ?_
        apply Exists.intro
        refine ⟨fun vs x hR hF K hK => ?_, ?_⟩
        · clear hF
          go_simp
          exact hK _ _ (Grow.refl _) rfl
        refine Plan.det 3 rfl (Grow.refl) ?_
        apply Exists.intro
        refine ⟨fun vs x hR hF K hK => ?_, ?_⟩
        · have f0 := hF 1 _ _ rfl rfl; have f1 := hF 0 _ _ rfl rfl; clear hF
          go_simp
          exact hK _ _ (Grow.refl _) rfl
        refine Plan.det 4 rfl (Grow.refl) ?_
        apply Exists.intro
        refine ⟨fun vs x hR hF K hK => ?_, ?_⟩
        · have f2 := hF 0 _ _ rfl rfl; have hc := HC.out x hR; clear hF
          go_simp
          exact hK _ _ (Grow.refl _) rfl
        refine Plan.det 5 rfl (Grow.refl) ?_
        apply Exists.intro
        refine ⟨fun vs x hR hF K hK => ?_, ?_⟩
        · have f3 := hF 0 _ _ rfl rfl; clear hF
          go_simp
          exact hK _ _ (Grow.refl _) rfl
        refine Plan.det 6 rfl (Grow.refl) ?_
        apply Exists.intro
        refine ⟨fun vs x hR hF K hK => ?_, ?_⟩
        · have f4 := hF 0 _ _ rfl rfl; clear hF
          go_simp
          exact hK _ _ (Grow.refl _) rfl
        refine Plan.det 7 rfl (Grow.refl) ?_
        apply Exists.intro
        refine ⟨fun vs x hR hF K hK => ?_, ?_⟩
        · have f4 := hF 1 _ _ rfl rfl; have f5 := hF 0 _ _ rfl rfl; have hc := HC.out x hR; clear hF
          go_simp
          exact hK _ _ (Grow.refl _) rfl
        refine Plan.det 8 rfl (Grow.refl) ?_
        apply Exists.intro
        refine ⟨fun vs x hR hF K hK => ?_, ?_⟩
        · have f4 := hF 2 _ _ rfl rfl; clear hF
          go_simp
          exact hK _ _ (Grow.refl _) rfl
        refine Plan.det 9 rfl (Grow.refl) ?_
        apply Exists.intro
        refine ⟨fun vs x hR hF K hK => ?_, ?_⟩
        · have f4 := hF 3 _ _ rfl rfl; have f6 := hF 1 _ _ rfl rfl; have f7 := hF 0 _ _ rfl rfl; clear hF
          go_simp
          exact hK _ _ (Grow.refl _) rfl
        refine Plan.det 10 rfl (Grow.refl) ?_
        apply Exists.intro
        refine ⟨fun vs x hR hF K hK => ?_, ?_⟩
        · have f4 := hF 4 _ _ rfl rfl; have f8 := hF 0 _ _ rfl rfl; clear hF
          go_simp
          exact hK _ _ (Grow.refl _) rfl
        refine Plan.det 11 rfl (Grow.refl) ?_
        apply Exists.intro
        refine ⟨fun vs x hR hF K hK => ?_, ?_⟩
        · have f4 := hF 5 _ _ rfl rfl; have f9 := hF 0 _ _ rfl rfl; have hc := HC.out x hR; clear hF
          go_simp
          exact hK _ _ (Grow.refl _) rfl
        refine Plan.det 12 rfl (Grow.refl) ?_
        apply Exists.intro
        refine ⟨fun vs x hR hF K hK => ?_, ?_⟩
        · have f4 := hF 6 _ _ rfl rfl; have f10 := hF 0 _ _ rfl rfl; clear hF
          go_simp
          exact hK _ _ (Grow.refl _) rfl
        refine Plan.det 13 rfl (Grow.refl) ?_
        apply Exists.intro
        refine ⟨fun vs x hR hF K hK => ?_, ?_⟩
        · have f4 := hF 7 _ _ rfl rfl; have f11 := hF 0 _ _ rfl rfl; clear hF
          go_simp
          exact hK _ _ (Grow.refl _) rfl
        refine Plan.det 14 rfl (Grow.refl) ?_
        apply Exists.intro
        refine ⟨fun vs x hR hF K hK => ?_, ?_⟩
        · have f4 := hF 8 _ _ rfl rfl; have f12 := hF 0 _ _ rfl rfl; clear hF
          go_simp
          exact hK _ _ (Grow.refl _) rfl
        refine Plan.det 15 rfl (Grow.refl) ?_
        apply Exists.intro
        refine ⟨fun vs x hR hF K hK => ?_, ?_⟩
        · have f13 := hF 0 _ _ rfl rfl; clear hF
          go_simp
          exact hK _ _ (Grow.refl _) rfl
        refine Plan.det 16 rfl (Grow.refl) ?_
        apply Exists.intro
        refine ⟨fun vs x hR hF K hK => ?_, ?_⟩
        · have f13 := hF 1 _ _ rfl rfl; have f14 := hF 0 _ _ rfl rfl; have hc := HC.out x hR; clear hF
          go_simp
          exact hK _ _ (Grow.refl _) rfl
        refine Plan.det 17 rfl (Grow.refl) ?_
        apply Exists.intro
        refine ⟨fun vs x hR hF K hK => ?_, ?_⟩
        · have f13 := hF 2 _ _ rfl rfl; clear hF
          go_simp
          exact hK _ _ (Grow.refl _) rfl
        refine Plan.det 18 rfl (Grow.refl) ?_
        apply Exists.intro
        refine ⟨fun vs x hR hF K hK => ?_, ?_⟩
        · have f13 := hF 3 _ _ rfl rfl; have f15 := hF 1 _ _ rfl rfl; have f16 := hF 0 _ _ rfl rfl; clear hF
          go_simp
          exact hK _ _ (Grow.refl _) rfl
        refine Plan.det 19 rfl (Grow.refl) ?_
        apply Exists.intro
        refine ⟨fun vs x hR hF K hK => ?_, ?_⟩
        · have f13 := hF 4 _ _ rfl rfl; have f17 := hF 0 _ _ rfl rfl; clear hF
          go_simp
          exact hK _ _ (Grow.refl _) rfl
        refine Plan.det 20 rfl (Grow.refl) ?_
        apply Exists.intro
        refine ⟨fun vs x hR hF K hK => ?_, ?_⟩
        · have f13 := hF 5 _ _ rfl rfl; have f18 := hF 0 _ _ rfl rfl; have hc := HC.out x hR; clear hF
          go_simp
          exact hK _ _ (Grow.refl _) rfl
        refine Plan.det 21 rfl (Grow.refl) ?_
        apply Exists.intro
        refine ⟨fun vs x hR hF K hK => ?_, ?_⟩
        · have f13 := hF 6 _ _ rfl rfl; clear hF
          go_simp
          exact hK _ _ (Grow.refl _) rfl
        refine Plan.det 22 rfl (Grow.refl) ?_
        apply Exists.intro
        refine ⟨fun vs x hR hF K hK => ?_, ?_⟩
        · have f13 := hF 7 _ _ rfl rfl; clear hF
          go_simp
          exact hK _ _ (Grow.refl _) rfl
        refine Plan.det 23 rfl (Grow.refl) ?_
        apply Exists.intro
        refine ⟨fun vs x hR hF K hK => ?_, ?_⟩
        · have f13 := hF 8 _ _ rfl rfl; have f20 := hF 1 _ _ rfl rfl; have f21 := hF 0 _ _ rfl rfl; clear hF
          go_simp
          exact hK _ _ (Grow.refl _) rfl
        refine Plan.det 24 rfl (Grow.refl) ?_
        apply Exists.intro
        refine ⟨fun vs x hR hF K hK => ?_, ?_⟩
        · have f13 := hF 9 _ _ rfl rfl; have f19 := hF 3 _ _ rfl rfl; have f22 := hF 0 _ _ rfl rfl; clear hF
          go_simp
          exact hK _ _ (Grow.refl _) rfl
        refine Plan.det 25 rfl (Grow.refl) ?_
        apply Exists.intro
        refine ⟨fun vs x hR hF K hK => ?_, ?_⟩
        · have f13 := hF 10 _ _ rfl rfl; have f23 := hF 0 _ _ rfl rfl; clear hF
          go_simp
          exact hK _ _ (Grow.refl _) rfl
        refine Plan.nil (fun vs x hR hF => ?_)
        have f0 := hF 24 _ _ rfl; have f1 := hF 23 _ _ rfl; have f2 := hF 22 _ _ rfl; have f3 := hF 21 _ _ rfl; have f4 := hF 20 _ _ rfl; have f5 := hF 19 _ _ rfl; have f6 := hF 18 _ _ rfl; have f7 := hF 17 _ _ rfl; have f8 := hF 16 _ _ rfl; have f9 := hF 15 _ _ rfl; have f10 := hF 14 _ _ rfl; have f11 := hF 13 _ _ rfl; have f12 := hF 12 _ _ rfl; have f13 := hF 11 _ _ rfl; have f14 := hF 10 _ _ rfl; have f15 := hF 9 _ _ rfl; have f16 := hF 8 _ _ rfl; have f17 := hF 7 _ _ rfl; have f18 := hF 6 _ _ rfl; have f19 := hF 5 _ _ rfl; have f20 := hF 4 _ _ rfl; have f21 := hF 3 _ _ rfl; have f22 := hF 2 _ _ rfl; have f23 := hF 1 _ _ rfl; have f24 := hF 0 _ _ rfl
        clear hF
        simp only [f0, f1, f2, f3, f4, f5, f6, f7, f8, f9, f10, f11, f12, f13, f14, f15, f16, f17, f18, f19, f20, f21, f22, f23, f24]
        clear f0 f1 f2 f3 f4 f5 f6 f7 f8 f9 f10 f11 f12 f13 f14 f15 f16 f17 f18 f19 f20 f21 f22 f23 f24
        simp only [List.drop_succ_cons, List.drop_zero]
        have hbx : Below wr.heap.size wr x := ⟨hR.os, hR.tape, hR.output, hR.size, hR.block⟩
        have HYX : Hid (Row x G5 (boolRow mka m.L.length) 4 ∧ But [G5] y5 x) := ⟨HY.out.1.below hbx HGX.out, HY.out.2.2.trans (But.of_below hbx)⟩
        clear HC hR hbx
        go_wp2_with fail
        case roundEnd =>
          refine ⟨⟨k + 1, mka, hkl, rfl, HYX.out.1, HY.out.2.1.skip (by rw [hmk]; simp), HYX.out.2⟩, ?_⟩
          show m.L.length - ((k : Int) + 1).toNat < m.L.length - (k : Int).toNat
          omega
      rw [hmk] at HC
      by_cases hop : fop = 1
      case neg =>
        have d1 : (fop == 1) = false := by simpa using hop
        refine wp_region_inv 25 (Grow) (by kernel_rfl) (by kernel_rfl) (Grow.refl) (fun _ _ _ => Grow.trans) ?_
        simp only [fill, dstOf, Act.put, List.take_succ_cons, List.take_zero, List.getElem?_toArray, List.getElem?_cons_zero, List.getElem?_cons_succ, Option.bind_some, List.setIfInBounds_toArray, List.set_cons_zero, List.set_cons_succ]
        refine Plan.det 1 rfl (Grow.refl) ?_
        apply Exists.intro
        refine ⟨fun vs x hR hF K hK => ?_, ?_⟩
        · clear hF
          go_simp
          exact hK _ _ (Grow.refl _) rfl
        refine Plan.det 2 rfl (Grow.refl) ?_
        apply Exists.intro
        refine ⟨fun vs x hR hF K hK => ?_, ?_⟩
        · clear hF
          go_simp
          exact hK _ _ (Grow.refl _) rfl
        refine Plan.det 3 rfl (Grow.refl) ?_
        apply Exists.intro
        refine ⟨fun vs x hR hF K hK => ?_, ?_⟩
        · have f0 := hF 1 _ _ rfl rfl; have f1 := hF 0 _ _ rfl rfl; clear hF
          go_simp
          exact hK _ _ (Grow.refl _) rfl
        refine Plan.det 4 rfl (Grow.refl) ?_
        apply Exists.intro
        refine ⟨fun vs x hR hF K hK => ?_, ?_⟩
        · have f2 := hF 0 _ _ rfl rfl; have hc := HC.out x hR; clear hF
          go_simp
          exact hK _ _ (Grow.refl _) rfl
        refine Plan.det 5 rfl (Grow.refl) ?_
        apply Exists.intro
        refine ⟨fun vs x hR hF K hK => ?_, ?_⟩
        · have f3 := hF 0 _ _ rfl rfl; clear hF
          go_simp
          exact hK _ _ (Grow.refl _) rfl
        refine Plan.det 6 rfl (Grow.refl) ?_
        apply Exists.intro
        refine ⟨fun vs x hR hF K hK => ?_, ?_⟩
        · have f4 := hF 0 _ _ rfl rfl; clear hF
          go_simp
          exact hK _ _ (Grow.refl _) rfl
        refine Plan.det 7 rfl (Grow.refl) ?_
        apply Exists.intro
        refine ⟨fun vs x hR hF K hK => ?_, ?_⟩
        · have f4 := hF 1 _ _ rfl rfl; have f5 := hF 0 _ _ rfl rfl; have hc := HC.out x hR; clear hF
          go_simp
          exact hK _ _ (Grow.refl _) rfl
        refine Plan.det 8 rfl (Grow.refl) ?_
        apply Exists.intro
        refine ⟨fun vs x hR hF K hK => ?_, ?_⟩
        · have f4 := hF 2 _ _ rfl rfl; clear hF
          go_simp
          exact hK _ _ (Grow.refl _) rfl
        refine Plan.det 9 rfl (Grow.refl) ?_
        apply Exists.intro
        refine ⟨fun vs x hR hF K hK => ?_, ?_⟩
        · have f4 := hF 3 _ _ rfl rfl; have f6 := hF 1 _ _ rfl rfl; have f7 := hF 0 _ _ rfl rfl; clear hF
          go_simp
          exact hK _ _ (Grow.refl _) rfl
        refine Plan.det 10 rfl (Grow.refl) ?_
        apply Exists.intro
        refine ⟨fun vs x hR hF K hK => ?_, ?_⟩
        · have f4 := hF 4 _ _ rfl rfl; have f8 := hF 0 _ _ rfl rfl; clear hF
          go_simp
          exact hK _ _ (Grow.refl _) rfl
        refine Plan.det 11 rfl (Grow.refl) ?_
        apply Exists.intro
        refine ⟨fun vs x hR hF K hK => ?_, ?_⟩
        · have f4 := hF 5 _ _ rfl rfl; have f9 := hF 0 _ _ rfl rfl; have hc := HC.out x hR; clear hF
          go_simp
          exact hK _ _ (Grow.refl _) rfl
        refine Plan.det 12 rfl (Grow.refl) ?_
        apply Exists.intro
        refine ⟨fun vs x hR hF K hK => ?_, ?_⟩
        · have f4 := hF 6 _ _ rfl rfl; have f10 := hF 0 _ _ rfl rfl; clear hF
          go_simp
          exact hK _ _ (Grow.refl _) rfl
        refine Plan.det 13 rfl (Grow.refl) ?_
        apply Exists.intro
        refine ⟨fun vs x hR hF K hK => ?_, ?_⟩
        · have f4 := hF 7 _ _ rfl rfl; have f11 := hF 0 _ _ rfl rfl; clear hF
          go_simp
          exact hK _ _ (Grow.refl _) rfl
        refine Plan.det 14 rfl (Grow.refl) ?_
        apply Exists.intro
        refine ⟨fun vs x hR hF K hK => ?_, ?_⟩
        · have f4 := hF 8 _ _ rfl rfl; have f12 := hF 0 _ _ rfl rfl; clear hF
          go_simp
          exact hK _ _ (Grow.refl _) rfl
        refine Plan.det 15 rfl (Grow.refl) ?_
        apply Exists.intro
        refine ⟨fun vs x hR hF K hK => ?_, ?_⟩
        · have f13 := hF 0 _ _ rfl rfl; clear hF
          go_simp
          exact hK _ _ (Grow.refl _) rfl
        refine Plan.det 16 rfl (Grow.refl) ?_
        apply Exists.intro
        refine ⟨fun vs x hR hF K hK => ?_, ?_⟩
        · have f13 := hF 1 _ _ rfl rfl; have f14 := hF 0 _ _ rfl rfl; have hc := HC.out x hR; clear hF
          go_simp
          exact hK _ _ (Grow.refl _) rfl
        refine Plan.det 17 rfl (Grow.refl) ?_
        apply Exists.intro
        refine ⟨fun vs x hR hF K hK => ?_, ?_⟩
        · have f13 := hF 2 _ _ rfl rfl; clear hF
          go_simp
          exact hK _ _ (Grow.refl _) rfl
        refine Plan.det 18 rfl (Grow.refl) ?_
        apply Exists.intro
        refine ⟨fun vs x hR hF K hK => ?_, ?_⟩
        · have f13 := hF 3 _ _ rfl rfl; have f15 := hF 1 _ _ rfl rfl; have f16 := hF 0 _ _ rfl rfl; clear hF
          go_simp
          exact hK _ _ (Grow.refl _) rfl
        refine Plan.det 19 rfl (Grow.refl) ?_
        apply Exists.intro
        refine ⟨fun vs x hR hF K hK => ?_, ?_⟩
        · have f13 := hF 4 _ _ rfl rfl; have f17 := hF 0 _ _ rfl rfl; clear hF
          go_simp
          exact hK _ _ (Grow.refl _) rfl
        refine Plan.det 20 rfl (Grow.refl) ?_
        apply Exists.intro
        refine ⟨fun vs x hR hF K hK => ?_, ?_⟩
        · have f13 := hF 5 _ _ rfl rfl; have f18 := hF 0 _ _ rfl rfl; have hc := HC.out x hR; clear hF
          go_simp
          exact hK _ _ (Grow.refl _) rfl
        refine Plan.det 21 rfl (Grow.refl) ?_
        apply Exists.intro
        refine ⟨fun vs x hR hF K hK => ?_, ?_⟩
        · have f13 := hF 6 _ _ rfl rfl; clear hF
          go_simp
          exact hK _ _ (Grow.refl _) rfl
        refine Plan.det 22 rfl (Grow.refl) ?_
        apply Exists.intro
        refine ⟨fun vs x hR hF K hK => ?_, ?_⟩
        · have f13 := hF 7 _ _ rfl rfl; clear hF
          go_simp
          exact hK _ _ (Grow.refl _) rfl
        refine Plan.det 23 rfl (Grow.refl) ?_
        apply Exists.intro
        refine ⟨fun vs x hR hF K hK => ?_, ?_⟩
        · have f13 := hF 8 _ _ rfl rfl; have f20 := hF 1 _ _ rfl rfl; have f21 := hF 0 _ _ rfl rfl; clear hF
          go_simp
          exact hK _ _ (Grow.refl _) rfl
        refine Plan.det 24 rfl (Grow.refl) ?_
        apply Exists.intro
        refine ⟨fun vs x hR hF K hK => ?_, ?_⟩
        · have f13 := hF 9 _ _ rfl rfl; have f19 := hF 3 _ _ rfl rfl; have f22 := hF 0 _ _ rfl rfl; clear hF
          go_simp
          exact hK _ _ (Grow.refl _) rfl
        refine Plan.det 25 rfl (Grow.refl) ?_
        apply Exists.intro
        refine ⟨fun vs x hR hF K hK => ?_, ?_⟩
        · have f13 := hF 10 _ _ rfl rfl; have f23 := hF 0 _ _ rfl rfl; clear hF
          go_simp
          exact hK _ _ (Grow.refl _) rfl
        refine Plan.nil (fun vs x hR hF => ?_)
        have f0 := hF 24 _ _ rfl; have f1 := hF 23 _ _ rfl; have f2 := hF 22 _ _ rfl; have f3 := hF 21 _ _ rfl; have f4 := hF 20 _ _ rfl; have f5 := hF 19 _ _ rfl; have f6 := hF 18 _ _ rfl; have f7 := hF 17 _ _ rfl; have f8 := hF 16 _ _ rfl; have f9 := hF 15 _ _ rfl; have f10 := hF 14 _ _ rfl; have f11 := hF 13 _ _ rfl; have f12 := hF 12 _ _ rfl; have f13 := hF 11 _ _ rfl; have f14 := hF 10 _ _ rfl; have f15 := hF 9 _ _ rfl; have f16 := hF 8 _ _ rfl; have f17 := hF 7 _ _ rfl; have f18 := hF 6 _ _ rfl; have f19 := hF 5 _ _ rfl; have f20 := hF 4 _ _ rfl; have f21 := hF 3 _ _ rfl; have f22 := hF 2 _ _ rfl; have f23 := hF 1 _ _ rfl; have f24 := hF 0 _ _ rfl
        clear hF
        simp only [f0, f1, f2, f3, f4, f5, f6, f7, f8, f9, f10, f11, f12, f13, f14, f15, f16, f17, f18, f19, f20, f21, f22, f23, f24]
        clear f0 f1 f2 f3 f4 f5 f6 f7 f8 f9 f10 f11 f12 f13 f14 f15 f16 f17 f18 f19 f20 f21 f22 f23 f24
        simp only [List.drop_succ_cons, List.drop_zero]
        have hbx : Below wr.heap.size wr x := ⟨hR.os, hR.tape, hR.output, hR.size, hR.block⟩
        have HYX : Hid (Row x G5 (boolRow mka m.L.length) 4 ∧ But [G5] y5 x) := ⟨HY.out.1.below hbx HGX.out, HY.out.2.2.trans (But.of_below hbx)⟩
        clear HC hR hbx
        go_wp2_with fail
        case roundEnd =>
          refine ⟨⟨k + 1, mka, hkl, rfl, HYX.out.1, HY.out.2.1.skip (fun h => hop (HTK.out.1 h.2).1), HYX.out.2⟩, ?_⟩
          show m.L.length - ((k : Int) + 1).toNat < m.L.length - (k : Int).toNat
          omega
      subst hop
      have HH := hid (fun (x : World) => Has_any fset (str[i]).toNat x HWK.out (UInt8.toNat_lt _))
      rcases hhs : fset.has (str[i]).toNat with _ | _
      · rw [hhs] at HH
        refine wp_region_inv 25 (Grow) (by kernel_rfl) (by kernel_rfl) (Grow.refl) (fun _ _ _ => Grow.trans) ?_
        simp only [fill, dstOf, Act.put, List.take_succ_cons, List.take_zero, List.getElem?_toArray, List.getElem?_cons_zero, List.getElem?_cons_succ, Option.bind_some, List.setIfInBounds_toArray, List.set_cons_zero, List.set_cons_succ]
        refine Plan.det 1 rfl (Grow.refl) ?_
        apply Exists.intro
        refine ⟨fun vs x hR hF K hK => ?_, ?_⟩
        · clear hF
          go_simp
          exact hK _ _ (Grow.refl _) rfl
        refine Plan.det 2 rfl (Grow.refl) ?_
        apply Exists.intro
        refine ⟨fun vs x hR hF K hK => ?_, ?_⟩
        · clear hF
          go_simp
          exact hK _ _ (Grow.refl _) rfl
        refine Plan.det 3 rfl (Grow.refl) ?_
        apply Exists.intro
        refine ⟨fun vs x hR hF K hK => ?_, ?_⟩
        · have f0 := hF 1 _ _ rfl rfl; have f1 := hF 0 _ _ rfl rfl; clear hF
          go_simp
          exact hK _ _ (Grow.refl _) rfl
        refine Plan.det 4 rfl (Grow.refl) ?_
        apply Exists.intro
        refine ⟨fun vs x hR hF K hK => ?_, ?_⟩
        · have f2 := hF 0 _ _ rfl rfl; have hc := HC.out x hR; clear hF
          go_simp
          exact hK _ _ (Grow.refl _) rfl
        refine Plan.det 5 rfl (Grow.refl) ?_
        apply Exists.intro
        refine ⟨fun vs x hR hF K hK => ?_, ?_⟩
        · have f3 := hF 0 _ _ rfl rfl; clear hF
          go_simp
          exact hK _ _ (Grow.refl _) rfl
        refine Plan.det 6 rfl (Grow.refl) ?_
        apply Exists.intro
        refine ⟨fun vs x hR hF K hK => ?_, ?_⟩
        · have f4 := hF 0 _ _ rfl rfl; clear hF
          go_simp
          exact hK _ _ (Grow.refl _) rfl
        refine Plan.det 7 rfl (Grow.refl) ?_
        apply Exists.intro
        refine ⟨fun vs x hR hF K hK => ?_, ?_⟩
        · have f4 := hF 1 _ _ rfl rfl; have f5 := hF 0 _ _ rfl rfl; have hc := HC.out x hR; clear hF
          go_simp
          exact hK _ _ (Grow.refl _) rfl
        refine Plan.det 8 rfl (Grow.refl) ?_
        apply Exists.intro
        refine ⟨fun vs x hR hF K hK => ?_, ?_⟩
        · have f4 := hF 2 _ _ rfl rfl; clear hF
          go_simp
          exact hK _ _ (Grow.refl _) rfl
        refine Plan.det 9 rfl (Grow.refl) ?_
        apply Exists.intro
        refine ⟨fun vs x hR hF K hK => ?_, ?_⟩
        · have f4 := hF 3 _ _ rfl rfl; have f6 := hF 1 _ _ rfl rfl; have f7 := hF 0 _ _ rfl rfl; clear hF
          go_simp
          exact hK _ _ (Grow.refl _) rfl
        refine Plan.det 10 rfl (Grow.refl) ?_
        apply Exists.intro
        refine ⟨fun vs x hR hF K hK => ?_, ?_⟩
        · have f4 := hF 4 _ _ rfl rfl; have f8 := hF 0 _ _ rfl rfl; clear hF
          go_simp
          exact hK _ _ (Grow.refl _) rfl
        refine Plan.det 11 rfl (Grow.refl) ?_
        apply Exists.intro
        refine ⟨fun vs x hR hF K hK => ?_, ?_⟩
        · have f4 := hF 5 _ _ rfl rfl; have f9 := hF 0 _ _ rfl rfl; have hc := HC.out x hR; clear hF
          go_simp
          exact hK _ _ (Grow.refl _) rfl
        refine Plan.det 12 rfl (Grow.refl) ?_
        apply Exists.intro
        refine ⟨fun vs x hR hF K hK => ?_, ?_⟩
        · have f4 := hF 6 _ _ rfl rfl; have f10 := hF 0 _ _ rfl rfl; clear hF
          go_simp
          exact hK _ _ (Grow.refl _) rfl
        refine Plan.det 13 rfl (Grow.refl) ?_
        apply Exists.intro
        refine ⟨fun vs x hR hF K hK => ?_, ?_⟩
        · have f4 := hF 7 _ _ rfl rfl; have f11 := hF 0 _ _ rfl rfl; clear hF
          go_simp
          exact hK _ _ (Grow.refl _) rfl
        refine Plan.det 14 rfl (Grow.refl) ?_
        apply Exists.intro
        refine ⟨fun vs x hR hF K hK => ?_, ?_⟩
        · have f4 := hF 8 _ _ rfl rfl; have f12 := hF 0 _ _ rfl rfl; clear hF
          go_simp
          exact hK _ _ (Grow.refl _) rfl
        refine Plan.det 15 rfl (Grow.refl) ?_
        apply Exists.intro
        refine ⟨fun vs x hR hF K hK => ?_, ?_⟩
        · have f13 := hF 0 _ _ rfl rfl; clear hF
          go_simp
          exact hK _ _ (Grow.refl _) rfl
        refine Plan.det 16 rfl (Grow.refl) ?_
        apply Exists.intro
        refine ⟨fun vs x hR hF K hK => ?_, ?_⟩
        · have f13 := hF 1 _ _ rfl rfl; have f14 := hF 0 _ _ rfl rfl; have hc := HC.out x hR; clear hF
          go_simp
          exact hK _ _ (Grow.refl _) rfl
        refine Plan.det 17 rfl (Grow.refl) ?_
        apply Exists.intro
        refine ⟨fun vs x hR hF K hK => ?_, ?_⟩
        · have f13 := hF 2 _ _ rfl rfl; clear hF
          go_simp
          exact hK _ _ (Grow.refl _) rfl
        refine Plan.det 18 rfl (Grow.refl) ?_
        apply Exists.intro
        refine ⟨fun vs x hR hF K hK => ?_, ?_⟩
        · have f13 := hF 3 _ _ rfl rfl; have f15 := hF 1 _ _ rfl rfl; have f16 := hF 0 _ _ rfl rfl; clear hF
          go_simp
          exact hK _ _ (Grow.refl _) rfl
        refine Plan.det 19 rfl (Grow.refl) ?_
        apply Exists.intro
        refine ⟨fun vs x hR hF K hK => ?_, ?_⟩
        · have f13 := hF 4 _ _ rfl rfl; have f17 := hF 0 _ _ rfl rfl; clear hF
          go_simp
          exact hK _ _ (Grow.refl _) rfl
        refine Plan.det 20 rfl (Grow.refl) ?_
        apply Exists.intro
        refine ⟨fun vs x hR hF K hK => ?_, ?_⟩
        · have f13 := hF 5 _ _ rfl rfl; have f18 := hF 0 _ _ rfl rfl; have hc := HC.out x hR; clear hF
          go_simp
          exact hK _ _ (Grow.refl _) rfl
        refine Plan.det 21 rfl (Grow.refl) ?_
        apply Exists.intro
        refine ⟨fun vs x hR hF K hK => ?_, ?_⟩
        · have f13 := hF 6 _ _ rfl rfl; clear hF
          go_simp
          exact hK _ _ (Grow.refl _) rfl
        refine Plan.det 22 rfl (Grow.refl) ?_
        apply Exists.intro
        refine ⟨fun vs x hR hF K hK => ?_, ?_⟩
        · have f13 := hF 7 _ _ rfl rfl; clear hF
          go_simp
          exact hK _ _ (Grow.refl _) rfl
        refine Plan.det 23 rfl (Grow.refl) ?_
        apply Exists.intro
        refine ⟨fun vs x hR hF K hK => ?_, ?_⟩
        · have f13 := hF 8 _ _ rfl rfl; have f20 := hF 1 _ _ rfl rfl; have f21 := hF 0 _ _ rfl rfl; clear hF
          go_simp
          exact hK _ _ (Grow.refl _) rfl
        refine Plan.det 24 rfl (Grow.refl) ?_
        apply Exists.intro
        refine ⟨fun vs x hR hF K hK => ?_, ?_⟩
        · have f13 := hF 9 _ _ rfl rfl; have f19 := hF 3 _ _ rfl rfl; have f22 := hF 0 _ _ rfl rfl; clear hF
          go_simp
          refine (HH.out x).mono ?_
          rintro e x1 ⟨rfl, hbe⟩
          exact ⟨_, rfl, hK _ _ hbe rfl⟩
        refine Plan.det 25 rfl (Grow.refl) ?_
        apply Exists.intro
        refine ⟨fun vs x hR hF K hK => ?_, ?_⟩
        · have f13 := hF 10 _ _ rfl rfl; have f23 := hF 0 _ _ rfl rfl; clear hF
          go_simp
          exact hK _ _ (Grow.refl _) rfl
        refine Plan.nil (fun vs x hR hF => ?_)
        have f0 := hF 24 _ _ rfl; have f1 := hF 23 _ _ rfl; have f2 := hF 22 _ _ rfl; have f3 := hF 21 _ _ rfl; have f4 := hF 20 _ _ rfl; have f5 := hF 19 _ _ rfl; have f6 := hF 18 _ _ rfl; have f7 := hF 17 _ _ rfl; have f8 := hF 16 _ _ rfl; have f9 := hF 15 _ _ rfl; have f10 := hF 14 _ _ rfl; have f11 := hF 13 _ _ rfl; have f12 := hF 12 _ _ rfl; have f13 := hF 11 _ _ rfl; have f14 := hF 10 _ _ rfl; have f15 := hF 9 _ _ rfl; have f16 := hF 8 _ _ rfl; have f17 := hF 7 _ _ rfl; have f18 := hF 6 _ _ rfl; have f19 := hF 5 _ _ rfl; have f20 := hF 4 _ _ rfl; have f21 := hF 3 _ _ rfl; have f22 := hF 2 _ _ rfl; have f23 := hF 1 _ _ rfl; have f24 := hF 0 _ _ rfl
        clear hF
        simp only [f0, f1, f2, f3, f4, f5, f6, f7, f8, f9, f10, f11, f12, f13, f14, f15, f16, f17, f18, f19, f20, f21, f22, f23, f24]
        clear f0 f1 f2 f3 f4 f5 f6 f7 f8 f9 f10 f11 f12 f13 f14 f15 f16 f17 f18 f19 f20 f21 f22 f23 f24
        simp only [List.drop_succ_cons, List.drop_zero]
        have hbx : Below wr.heap.size wr x := ⟨hR.os, hR.tape, hR.output, hR.size, hR.block⟩
        have HYX : Hid (Row x G5 (boolRow mka m.L.length) 4 ∧ But [G5] y5 x) := ⟨HY.out.1.below hbx HGX.out, HY.out.2.2.trans (But.of_below hbx)⟩
        clear HC hR hbx
        go_wp2_with fail
        case roundEnd =>
          refine ⟨⟨k + 1, mka, hkl, rfl, HYX.out.1, HY.out.2.1.skip (fun h => by have := (HTK.out.1 h.2).2; rw [hhs] at this; cases this), HYX.out.2⟩, ?_⟩
          show m.L.length - ((k : Int) + 1).toNat < m.L.length - (k : Int).toNat
          omega
      · rw [hhs] at HH
        have HTY : Hid (m.takes i k) := HTK.out.2 ⟨rfl, hhs⟩
        have HRX := HE.out.right
        have hk1 := Sim.takes_lt HRX hkl HTY.out
        clear HRX
        refine wp_region_inv 25 (Grow) (by kernel_rfl) (by kernel_rfl) (Grow.refl) (fun _ _ _ => Grow.trans) ?_
        simp only [fill, dstOf, Act.put, List.take_succ_cons, List.take_zero, List.getElem?_toArray, List.getElem?_cons_zero, List.getElem?_cons_succ, Option.bind_some, List.setIfInBounds_toArray, List.set_cons_zero, List.set_cons_succ]
        refine Plan.det 1 rfl (Grow.refl) ?_
        apply Exists.intro
        refine ⟨fun vs x hR hF K hK => ?_, ?_⟩
        · clear hF
          go_simp
          exact hK _ _ (Grow.refl _) rfl
        refine Plan.det 2 rfl (Grow.refl) ?_
        apply Exists.intro
        refine ⟨fun vs x hR hF K hK => ?_, ?_⟩
        · clear hF
          go_simp
          exact hK _ _ (Grow.refl _) rfl
        refine Plan.det 3 rfl (Grow.refl) ?_
        apply Exists.intro
        refine ⟨fun vs x hR hF K hK => ?_, ?_⟩
        · have f0 := hF 1 _ _ rfl rfl; have f1 := hF 0 _ _ rfl rfl; clear hF
          go_simp
          exact hK _ _ (Grow.refl _) rfl
        refine Plan.det 4 rfl (Grow.refl) ?_
        apply Exists.intro
        refine ⟨fun vs x hR hF K hK => ?_, ?_⟩
        · have f2 := hF 0 _ _ rfl rfl; have hc := HC.out x hR; clear hF
          go_simp
          exact hK _ _ (Grow.refl _) rfl
        refine Plan.det 5 rfl (Grow.refl) ?_
        apply Exists.intro
        refine ⟨fun vs x hR hF K hK => ?_, ?_⟩
        · have f3 := hF 0 _ _ rfl rfl; clear hF
          go_simp
          exact hK _ _ (Grow.refl _) rfl
        refine Plan.det 6 rfl (Grow.refl) ?_
        apply Exists.intro
        refine ⟨fun vs x hR hF K hK => ?_, ?_⟩
        · have f4 := hF 0 _ _ rfl rfl; clear hF
          go_simp
          exact hK _ _ (Grow.refl _) rfl
        refine Plan.det 7 rfl (Grow.refl) ?_
        apply Exists.intro
        refine ⟨fun vs x hR hF K hK => ?_, ?_⟩
        · have f4 := hF 1 _ _ rfl rfl; have f5 := hF 0 _ _ rfl rfl; have hc := HC.out x hR; clear hF
          go_simp
          exact hK _ _ (Grow.refl _) rfl
        refine Plan.det 8 rfl (Grow.refl) ?_
        apply Exists.intro
        refine ⟨fun vs x hR hF K hK => ?_, ?_⟩
        · have f4 := hF 2 _ _ rfl rfl; clear hF
          go_simp
          exact hK _ _ (Grow.refl _) rfl
        refine Plan.det 9 rfl (Grow.refl) ?_
        apply Exists.intro
        refine ⟨fun vs x hR hF K hK => ?_, ?_⟩
        · have f4 := hF 3 _ _ rfl rfl; have f6 := hF 1 _ _ rfl rfl; have f7 := hF 0 _ _ rfl rfl; clear hF
          go_simp
          exact hK _ _ (Grow.refl _) rfl
        refine Plan.det 10 rfl (Grow.refl) ?_
        apply Exists.intro
        refine ⟨fun vs x hR hF K hK => ?_, ?_⟩
        · have f4 := hF 4 _ _ rfl rfl; have f8 := hF 0 _ _ rfl rfl; clear hF
          go_simp
          exact hK _ _ (Grow.refl _) rfl
        refine Plan.det 11 rfl (Grow.refl) ?_
        apply Exists.intro
        refine ⟨fun vs x hR hF K hK => ?_, ?_⟩
        · have f4 := hF 5 _ _ rfl rfl; have f9 := hF 0 _ _ rfl rfl; have hc := HC.out x hR; clear hF
          go_simp
          exact hK _ _ (Grow.refl _) rfl
        refine Plan.det 12 rfl (Grow.refl) ?_
        apply Exists.intro
        refine ⟨fun vs x hR hF K hK => ?_, ?_⟩
        · have f4 := hF 6 _ _ rfl rfl; have f10 := hF 0 _ _ rfl rfl; clear hF
          go_simp
          exact hK _ _ (Grow.refl _) rfl
        refine Plan.det 13 rfl (Grow.refl) ?_
        apply Exists.intro
        refine ⟨fun vs x hR hF K hK => ?_, ?_⟩
        · have f4 := hF 7 _ _ rfl rfl; have f11 := hF 0 _ _ rfl rfl; clear hF
          go_simp
          exact hK _ _ (Grow.refl _) rfl
        refine Plan.det 14 rfl (Grow.refl) ?_
        apply Exists.intro
        refine ⟨fun vs x hR hF K hK => ?_, ?_⟩
        · have f4 := hF 8 _ _ rfl rfl; have f12 := hF 0 _ _ rfl rfl; clear hF
          go_simp
          exact hK _ _ (Grow.refl _) rfl
        refine Plan.det 15 rfl (Grow.refl) ?_
        apply Exists.intro
        refine ⟨fun vs x hR hF K hK => ?_, ?_⟩
        · have f13 := hF 0 _ _ rfl rfl; clear hF
          go_simp
          exact hK _ _ (Grow.refl _) rfl
        refine Plan.det 16 rfl (Grow.refl) ?_
        apply Exists.intro
        refine ⟨fun vs x hR hF K hK => ?_, ?_⟩
        · have f13 := hF 1 _ _ rfl rfl; have f14 := hF 0 _ _ rfl rfl; have hc := HC.out x hR; clear hF
          go_simp
          exact hK _ _ (Grow.refl _) rfl
        refine Plan.det 17 rfl (Grow.refl) ?_
        apply Exists.intro
        refine ⟨fun vs x hR hF K hK => ?_, ?_⟩
        · have f13 := hF 2 _ _ rfl rfl; clear hF
          go_simp
          exact hK _ _ (Grow.refl _) rfl
        refine Plan.det 18 rfl (Grow.refl) ?_
        apply Exists.intro
        refine ⟨fun vs x hR hF K hK => ?_, ?_⟩
        · have f13 := hF 3 _ _ rfl rfl; have f15 := hF 1 _ _ rfl rfl; have f16 := hF 0 _ _ rfl rfl; clear hF
          go_simp
          exact hK _ _ (Grow.refl _) rfl
        refine Plan.det 19 rfl (Grow.refl) ?_
        apply Exists.intro
        refine ⟨fun vs x hR hF K hK => ?_, ?_⟩
        · have f13 := hF 4 _ _ rfl rfl; have f17 := hF 0 _ _ rfl rfl; clear hF
          go_simp
          exact hK _ _ (Grow.refl _) rfl
        refine Plan.det 20 rfl (Grow.refl) ?_
        apply Exists.intro
        refine ⟨fun vs x hR hF K hK => ?_, ?_⟩
        · have f13 := hF 5 _ _ rfl rfl; have f18 := hF 0 _ _ rfl rfl; have hc := HC.out x hR; clear hF
          go_simp
          exact hK _ _ (Grow.refl _) rfl
        refine Plan.det 21 rfl (Grow.refl) ?_
        apply Exists.intro
        refine ⟨fun vs x hR hF K hK => ?_, ?_⟩
        · have f13 := hF 6 _ _ rfl rfl; clear hF
          go_simp
          exact hK _ _ (Grow.refl _) rfl
        refine Plan.det 22 rfl (Grow.refl) ?_
        apply Exists.intro
        refine ⟨fun vs x hR hF K hK => ?_, ?_⟩
        · have f13 := hF 7 _ _ rfl rfl; clear hF
          go_simp
          exact hK _ _ (Grow.refl _) rfl
        refine Plan.det 23 rfl (Grow.refl) ?_
        apply Exists.intro
        refine ⟨fun vs x hR hF K hK => ?_, ?_⟩
        · have f13 := hF 8 _ _ rfl rfl; have f20 := hF 1 _ _ rfl rfl; have f21 := hF 0 _ _ rfl rfl; clear hF
          go_simp
          exact hK _ _ (Grow.refl _) rfl
        refine Plan.det 24 rfl (Grow.refl) ?_
        apply Exists.intro
        refine ⟨fun vs x hR hF K hK => ?_, ?_⟩
        · have f13 := hF 9 _ _ rfl rfl; have f19 := hF 3 _ _ rfl rfl; have f22 := hF 0 _ _ rfl rfl; clear hF
          go_simp
          refine (HH.out x).mono ?_
          rintro e x1 ⟨rfl, hbe⟩
          exact ⟨_, rfl, hK _ _ hbe rfl⟩
        refine Plan.det 25 rfl (Grow.refl) ?_
        apply Exists.intro
        refine ⟨fun vs x hR hF K hK => ?_, ?_⟩
        · have f13 := hF 10 _ _ rfl rfl; have f23 := hF 0 _ _ rfl rfl; clear hF
          go_simp
          exact hK _ _ (Grow.refl _) rfl
        refine Plan.nil (fun vs x hR hF => ?_)
        have f0 := hF 24 _ _ rfl; have f1 := hF 23 _ _ rfl; have f2 := hF 22 _ _ rfl; have f3 := hF 21 _ _ rfl; have f4 := hF 20 _ _ rfl; have f5 := hF 19 _ _ rfl; have f6 := hF 18 _ _ rfl; have f7 := hF 17 _ _ rfl; have f8 := hF 16 _ _ rfl; have f9 := hF 15 _ _ rfl; have f10 := hF 14 _ _ rfl; have f11 := hF 13 _ _ rfl; have f12 := hF 12 _ _ rfl; have f13 := hF 11 _ _ rfl; have f14 := hF 10 _ _ rfl; have f15 := hF 9 _ _ rfl; have f16 := hF 8 _ _ rfl; have f17 := hF 7 _ _ rfl; have f18 := hF 6 _ _ rfl; have f19 := hF 5 _ _ rfl; have f20 := hF 4 _ _ rfl; have f21 := hF 3 _ _ rfl; have f22 := hF 2 _ _ rfl; have f23 := hF 1 _ _ rfl; have f24 := hF 0 _ _ rfl
        clear hF
        simp only [f0, f1, f2, f3, f4, f5, f6, f7, f8, f9, f10, f11, f12, f13, f14, f15, f16, f17, f18, f19, f20, f21, f22, f23, f24]
        clear f0 f1 f2 f3 f4 f5 f6 f7 f8 f9 f10 f11 f12 f13 f14 f15 f16 f17 f18 f19 f20 f21 f22 f23 f24
        simp only [List.drop_succ_cons, List.drop_zero]
        have hbx : Below wr.heap.size wr x := ⟨hR.os, hR.tape, hR.output, hR.size, hR.block⟩
        have HYX : Hid (Row x G5 (boolRow mka m.L.length) 4 ∧ But [G5] y5 x) := ⟨HY.out.1.below hbx HGX.out, HY.out.2.2.trans (But.of_below hbx)⟩
        clear HC hR hbx
        have qx : x.cell? ⟨G5, k + 1, none⟩ = some (.bool (mka (k + 1))) := (HYX.out.1.cell (k + 1)).trans (boolRow_get hk1)
        have fx := HYX.out.1.free (k + 1)
        have lx := HYX.out.1.lt
        have hk1I : (k : Int) + 1 < (m.L.length : Int) := by omega
        have HRX : Hid (Row (x.setCell ⟨G5, k + 1, none⟩ (.bool true)) G5 (boolRow (updB mka (k + 1)) m.L.length) 4 ∧ But [G5] y5 (x.setCell ⟨G5, k + 1, none⟩ (.bool true))) := by
          have h := HYX.out.1.set (k + 1) (.bool true)
          rw [boolRow_set] at h
          exact ⟨h, HYX.out.2.setCell (.inl (by simp)) _⟩
        go_wp2_with fail
        case roundEnd =>
          refine ⟨⟨k + 1, updB mka (k + 1), hkl, rfl, HRX.out.1, HY.out.2.1.take hmk HTY.out, HRX.out.2⟩, ?_⟩
          show m.L.length - ((k : Int) + 1).toNat < m.L.length - (k : Int).toNat
          omega
end Go.Proofs.Ytnjcfggadeakpaa
