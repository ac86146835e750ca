/- The law ReprogAgrees: after. -/
import Derived.Test.YthnpbopnpdlmnaaDoorA23
import Derived.Test.YthnpbopnpdlmnaaDoorA18
import Derived.Lib.ItoaMem
namespace Go.Proofs.YthnpbopnpdlmnaaDoor
open Go.RowKit
attribute [local go_sem] gives givesUpon

def AfS (m : Sim) (i : Nat) (l : List Nat) (z : Nat) : Prop := ∃ j, j ∈ l ∧ m.takes i j ∧ z = j + 1
structure AfP (m : Sim) (i : Nat) (l l' : List Nat) : Prop where
  iff : ∀ x, x ∈ l' ↔ m.Reach (i + 1) (AfS m i l) x
  nd : l'.Nodup
  lt : ∀ x, x ∈ l' → x < m.L.length
theorem AfP.first (m : Sim) (i : Nat) : AfP m i [] [] := by
  refine ⟨fun x => ⟨fun h => (by cases h), fun h => ?_⟩, List.nodup_nil, fun x h => (by cases h)⟩
  have := Sim.Reach.least (V := fun _ => False) (fun z hz => by obtain ⟨j, hj, -⟩ := hz; cases hj) (fun z hz => hz.elim) h
  exact this.elim
theorem AfP.skip {m : Sim} {i k : Nat} {l l' : List Nat} (h : AfP m i l l') (hk : ¬ m.takes i k) : AfP m i (l ++ [k]) l' := by
  refine ⟨fun x => (h.iff x).trans ⟨fun hr => hr.mono fun z hz => ?_, fun hr => hr.mono fun z hz => ?_⟩, h.nd, h.lt⟩
  · obtain ⟨j, hj, h1, h2⟩ := hz; exact ⟨j, by simp [hj], h1, h2⟩
  · obtain ⟨j, hj, h1, h2⟩ := hz
    rcases List.mem_append.1 hj with hj | hj
    · exact ⟨j, hj, h1, h2⟩
    · have := List.mem_singleton.1 hj; subst this; exact absurd h1 hk
theorem AfP.take {m : Sim} {i k : Nat} {l l1 l2 : List Nat} (h : AfP m i l l1) (hk : m.takes i k) (hr : RchP m (i + 1) (k + 1) l1 l2) : AfP m i (l ++ [k]) l2 := by
  refine ⟨fun x => ⟨fun hx => ?_, fun hx => ?_⟩, hr.nd, hr.lt⟩
  · rcases hr.src x hx with h1 | h1
    · exact ((h.iff x).1 h1).mono fun z hz => by obtain ⟨j, hj, h1, h2⟩ := hz; exact ⟨j, by simp [hj], h1, h2⟩
    · exact Sim.Reach.join ⟨k, by simp, hk, rfl⟩ h1
  · refine Sim.Reach.least (V := fun x => x ∈ l2) (fun z hz => ?_) (fun z hz j hj => ?_) hx
    · obtain ⟨j, hj, h1, h2⟩ := hz
      rcases List.mem_append.1 hj with hj | hj
      · exact hr.mono z ((h.iff z).2 (.base ⟨j, hj, h1, h2⟩))
      · have := List.mem_singleton.1 hj; subst this; subst h2; exact hr.self
    · by_cases hz1 : z ∈ l1
      · exact hr.mono j ((h.iff j).2 (.step ((h.iff z).1 hz1) hj))
      · exact hr.nxt z hz hz1 j hj
def AfPost (m : Sim) (i : Nat) (l : List Nat) (w : World) (e : Ending) (w' : World) : Prop :=
  ∃ (l' : List Nat) (a : Option Addr) (c : Nat), e = .returned (.slice a l'.length c) ∧ IntQ w' (.slice a l'.length c) l' ∧ Below w.heap.size w w' ∧ AfP m i l l'
set_option maxRecDepth 100000 in
set_option maxHeartbeats 16000000 in
theorem after_any (m : Sim) (ib io : Nat) (c : Nat) (str : ByteArray) (i : Nat) (hs : m.s = str.data.toList) (hi : i < str.size) (hz : str.size ≤ 1000000) (hR : rightAll m.L) (hwf : ∀ k (h : k < m.L.length), m.L[k].set.wf) (w : World) (v : Value) (l : List Nat) (hin : AgIn w m (some ⟨ib, io, none⟩) v l) (hl : l.length ≤ 4096) :
    Calls Tryd.prog 12 #[.agg #[.slice (some ⟨ib, io, none⟩) m.L.length c, .bool m.lines], .string str, .int .i64 i, v] w (AfPost m i l w) := by
  obtain ⟨va, vc, rfl⟩ := hin.own.form
  have HS := hid (⟨hs, hi, hz⟩ : _ ∧ _ ∧ _)
  have HRR := hid hR
  have HWF := hid hwf
  have hal := (Below.refl w.heap.size w).alloc (Nat.le_refl _) (.cells #[.slice (some ⟨ib, io, none⟩) m.L.length c, .bool m.lines] 35)
  have HIN := hid (hin.below hal)
  have HIN0 := hid hin
  have HRW := hid (Row.new rfl : Row (w.alloc (.cells #[.slice (some ⟨ib, io, none⟩) m.L.length c, .bool m.lines] 35)) w.heap.size [.slice (some ⟨ib, io, none⟩) m.L.length c, .bool m.lines] 35)
  have HAL := hid hal
  have hiI : (i : Int) < str.size := by omega
  have hzI : (str.size : Int) ≤ 1000000 := by omega
  clear hs hi hz hR hwf hal hin
  go_enter Tryd.func12, Tryd.ntmps12
  go_upto_region 1 with fail
  generalize w.alloc (.cells #[.slice (some ⟨ib, io, none⟩) m.L.length c, .bool m.lines] 35) = w1 at *
  obtain ⟨b0, hb0⟩ : ∃ b, b = w.heap.size := ⟨_, rfl⟩
  rw [← hb0] at HRW ⊢
  have HB0 := hid hb0
  clear hb0
  go_wp2_with fail
  go_loopw [9, 10] (fun nv ix wr => ∃ (j : Nat) (nx : List Nat) (na : Option Addr) (nn nc : Nat), j ≤ l.length ∧ nv = .slice na nn nc ∧ ix = .int .i64 j ∧ Hid (Below w.heap.size w wr ∧ Row wr b0 [.slice (some ⟨ib, io, none⟩) m.L.length c, .bool m.lines] 35 ∧ nn = nx.length ∧ OwnN9 wr w.heap.size (.slice na nn nc) nx ∧ (nx = [] → Value.slice na nn nc = .slice none 0 0)) ∧ Hid (AfP m i (l.take j) nx)) (fun _ ix _ => l.length - (intOf ix).toNat)
  case atStart => exact ⟨0, [], none, 0, 0, Nat.zero_le _, rfl, rfl, ⟨HAL.out, HRW.out, rfl, OwnN9.nil _ _, fun _ => rfl⟩, AfP.first m i⟩
  case round =>
    obtain ⟨j, nx, na, nn, nc, hj, rfl, rfl, HX, HA⟩ := hrel
    have q0 := HX.out.2.1.cell 0
    have hz0 := HX.out.2.1.lt
    by_cases hlt : j < l.length
    · have HI2 := hid (HIN0.out.below HX.out.1)
      obtain ⟨bb, cc, k, hlk, hv, hbb, hc0⟩ := HI2.out.own.get hlt
      have hel : l[j] = k := Option.some.inj ((List.getElem?_eq_getElem hlt).symm.trans hlk)
      have hkl : k < m.L.length := HI2.out.lt k (by rw [← hel]; exact List.getElem_mem _)
      have htk : l.take (j + 1) = l.take j ++ [k] := by rw [List.take_succ_eq_append_getElem hlt, hel]
      obtain ⟨ib', io', ha, hib, hic⟩ := HI2.out.ins.at hkl
      injection ha with ha
      injection ha with ha1 ha2
      subst ha1; subst ha2
      have hinst : m.inst k = m.L[k] := Sim.inst_eq hkl
      have hws := HWF.out k hkl
      have htl : m.takes i k → k + 1 < m.L.length := fun h => Sim.takes_lt HRR.out hkl h
      generalize m.L[k] = f at hinst hic hws
      obtain ⟨fop, fset, fx, fy⟩ := f
      have HTK : Hid (m.takes i k ↔ fop = 1 ∧ fset.has (m.byte i) = true) := by
        show _ ↔ _
        unfold Sim.takes
        rw [hinst]
      have HTL := hid (⟨htk, htl⟩ : _ ∧ _)
      have HWS := hid hws
      have HIC := hid hic
      have hjI : (j : Int) < l.length := by omega
      have hkI : (k : Int) < m.L.length := by omega
      have hk4 := HI2.out.few
      have HCB := hid (⟨hbb, hib, hc0⟩ : _ ∧ _ ∧ _)
      clear hel hlk hinst hic hws htk htl hbb hib hc0 q0
      injection hv with hv1 hv2 hv3
      subst hv1
      subst hv3
      have HC := hid (fun (x : World) (hx : Grow wr.drew x) => (⟨(HX.out.2.1.grow hx).cell 0, ((grow_below hx).cell (p := ⟨bb, j, none⟩) HCB.out.1).trans HCB.out.2.2, cells7 (fun t u ht => ((grow_below hx).cell (p := ⟨ib, io + k * 7 + t, none⟩) HCB.out.2.1).trans (HIC.out t u ht))⟩ : _ ∧ _ ∧ _))
      go_wp2_with fail
      refine wp_region_inv 9 (Grow) (by kernel_rfl) (by kernel_rfl) (Grow.refl) (fun _ _ _ => Grow.trans) ?_
      simp only [fill, dstOf, Act.put, List.take_succ_cons, List.take_zero, List.getElem?_toArray, List.getElem?_cons_zero, List.getElem?_cons_succ, Option.bind_some, List.setIfInBounds_toArray, List.set_cons_zero, List.set_cons_succ]
      refine Plan.det 1 rfl (Grow.refl) ?_
      apply Exists.intro
      refine ⟨fun vs x hR hF K hK => ?_, ?_⟩
      · clear hF
        go_simp
        exact hK _ _ (Grow.refl _) rfl
      refine Plan.det 2 rfl (Grow.refl) ?_
      apply Exists.intro
      refine ⟨fun vs x hR hF K hK => ?_, ?_⟩
      · have f0 := hF 0 _ _ rfl rfl; have hc := HC.out x hR; clear hF
        go_simp
        exact hK _ _ (Grow.refl _) rfl
      refine Plan.det 3 rfl (Grow.refl) ?_
      apply Exists.intro
      refine ⟨fun vs x hR hF K hK => ?_, ?_⟩
      · clear hF
        go_simp
        exact hK _ _ (Grow.refl _) rfl
      refine Plan.det 4 rfl (Grow.refl) ?_
      apply Exists.intro
      refine ⟨fun vs x hR hF K hK => ?_, ?_⟩
      · clear hF
        go_simp
        exact hK _ _ (Grow.refl _) rfl
      refine Plan.det 5 rfl (Grow.refl) ?_
      apply Exists.intro
      refine ⟨fun vs x hR hF K hK => ?_, ?_⟩
      · have f2 := hF 1 _ _ rfl rfl; have f3 := hF 0 _ _ rfl rfl; clear hF
        go_simp
        exact hK _ _ (Grow.refl _) rfl
      refine Plan.det 6 rfl (Grow.refl) ?_
      apply Exists.intro
      refine ⟨fun vs x hR hF K hK => ?_, ?_⟩
      · have f4 := hF 0 _ _ rfl rfl; have hc := HC.out x hR; clear hF
        go_simp
        exact hK _ _ (Grow.refl _) rfl
      refine Plan.det 7 rfl (Grow.refl) ?_
      apply Exists.intro
      refine ⟨fun vs x hR hF K hK => ?_, ?_⟩
      · have f1 := hF 4 _ _ rfl rfl; have f5 := hF 0 _ _ rfl rfl; clear hF
        go_simp
        exact hK _ _ (Grow.refl _) rfl
      refine Plan.det 8 rfl (Grow.refl) ?_
      apply Exists.intro
      refine ⟨fun vs x hR hF K hK => ?_, ?_⟩
      · have f6 := hF 0 _ _ rfl rfl; have hc := HC.out x hR; clear hF
        go_simp
        exact hK _ _ (Grow.refl _) rfl
      refine Plan.rel 9 rfl (Grow.refl) (fun v x => ∃ b, v = .pointer (some ⟨b, 0, none⟩) ∧ wr.heap.size ≤ b ∧ Row x b [.int .i64 0, .int .u64 0, .int .u64 0, .int .u64 0, .int .u64 0, .int .i64 0, .int .i64 0] 53) (fun v x y hR ⟨b, h1, h2, h3⟩ => ⟨b, h1, h2, h3.below hR h3.lt⟩) (fun vs x hR hF K hK => ?_) ?_
      · skip
        go_simp
        exact hK _ _ (Grow.alloc _ _) ⟨_, rfl, (by have := Grow.size hR; simp at this; omega), Row.at _ _ _⟩
      refine Plan.nil (fun vs x hR hF => ?_)
      have f0 := hF 8 _ _ rfl; have f1 := hF 7 _ _ rfl; have f2 := hF 6 _ _ rfl; have f3 := hF 5 _ _ rfl; have f4 := hF 4 _ _ rfl; have f5 := hF 3 _ _ rfl; have f6 := hF 2 _ _ rfl; have f7 := hF 1 _ _ rfl; have f8 := hF 0 _ _ rfl
      clear hF
      simp only [f0, f1, f2, f3, f4, f5, f6, f7]
      clear f0 f1 f2 f3 f4 f5 f6 f7
      simp only [List.drop_succ_cons, List.drop_zero]
      obtain ⟨b9, e9, hb9, hrow9⟩ := f8
      simp only [e9]
      have HROW9 := hid hrow9
      have q9 := row7 hrow9
      have hz9 := hrow9.lt
      have hf9 := hrow9.free
      have HBEL : Hid (Below wr.heap.size wr (((((((x.setCell ⟨b9, 0, none⟩ (.int .i64 fop)).setCell ⟨b9, 1, none⟩ (.int .u64 fset.a)).setCell ⟨b9, 2, none⟩ (.int .u64 fset.b)).setCell ⟨b9, 3, none⟩ (.int .u64 fset.c)).setCell ⟨b9, 4, none⟩ (.int .u64 fset.d)).setCell ⟨b9, 5, none⟩ (.int .i64 fx)).setCell ⟨b9, 6, none⟩ (.int .i64 fy))) := ((((((((grow_below hR).setCell (p := ⟨b9, 0, none⟩) hb9 (.int .i64 fop)).setCell (p := ⟨b9, 1, none⟩) hb9 (.int .u64 fset.a)).setCell (p := ⟨b9, 2, none⟩) hb9 (.int .u64 fset.b)).setCell (p := ⟨b9, 3, none⟩) hb9 (.int .u64 fset.c)).setCell (p := ⟨b9, 4, none⟩) hb9 (.int .u64 fset.d)).setCell (p := ⟨b9, 5, none⟩) hb9 (.int .i64 fx)).setCell (p := ⟨b9, 6, none⟩) hb9 (.int .i64 fy))
      have HRS : Hid (Row (((((((x.setCell ⟨b9, 0, none⟩ (.int .i64 fop)).setCell ⟨b9, 1, none⟩ (.int .u64 fset.a)).setCell ⟨b9, 2, none⟩ (.int .u64 fset.b)).setCell ⟨b9, 3, none⟩ (.int .u64 fset.c)).setCell ⟨b9, 4, none⟩ (.int .u64 fset.d)).setCell ⟨b9, 5, none⟩ (.int .i64 fx)).setCell ⟨b9, 6, none⟩ (.int .i64 fy)) b9 [.int .i64 fop, .int .u64 fset.a, .int .u64 fset.b, .int .u64 fset.c, .int .u64 fset.d, .int .i64 fx, .int .i64 fy] 53) := (((((((HROW9.out.set 0 (.int .i64 fop)).set 1 (.int .u64 fset.a)).set 2 (.int .u64 fset.b)).set 3 (.int .u64 fset.c)).set 4 (.int .u64 fset.d)).set 5 (.int .i64 fx)).set 6 (.int .i64 fy))
      clear hR HC hrow9 e9
      go_upto_region 6 with fail
      generalize (((((((x.setCell ⟨b9, 0, none⟩ (.int .i64 fop)).setCell ⟨b9, 1, none⟩ (.int .u64 fset.a)).setCell ⟨b9, 2, none⟩ (.int .u64 fset.b)).setCell ⟨b9, 3, none⟩ (.int .u64 fset.c)).setCell ⟨b9, 4, none⟩ (.int .u64 fset.d)).setCell ⟨b9, 5, none⟩ (.int .i64 fx)).setCell ⟨b9, 6, none⟩ (.int .i64 fy)) = z at *
      have HX2 := hid (⟨HX.out.1.trans (HBEL.out.mono HX.out.1.size), HX.out.2.1.below HBEL.out HX.out.2.1.lt, HX.out.2.2.1, HX.out.2.2.2.1.below HBEL.out, HX.out.2.2.2.2⟩ : Below w.heap.size w z ∧ Row z b0 [.slice (some ⟨ib, io, none⟩) m.L.length c, .bool m.lines] 35 ∧ nn = nx.length ∧ OwnN9 z w.heap.size (.slice na nn nc) nx ∧ (nx = [] → Value.slice na nn nc = .slice none 0 0))
      have HLC : Hid (bb < z.heap.size ∧ z.cell? ⟨bb, j, none⟩ = some (.int .i64 k)) := ⟨Nat.lt_of_lt_of_le HCB.out.1 HBEL.out.size, (HBEL.out.cell (p := ⟨bb, j, none⟩) HCB.out.1).trans HCB.out.2.2⟩
      clear q9 hz9 hf9 HROW9 HBEL hb9 HX HIC HCB
      have HC := hid (fun (x : World) (hx : Grow z.drew x) => row7 (HRS.out.grow hx))
      have hbyte := byte_eq HS.out.1 HS.out.2.1
      rw [hbyte] at HTK
      have HSKIP : Hid (∀ x : World, ¬ m.takes i k → Grow z.drew x → (Below w.heap.size w x ∧ Row x b0 [.slice (some ⟨ib, io, none⟩) m.L.length c, .bool m.lines] 35 ∧ nn = nx.length ∧ OwnN9 x w.heap.size (.slice na nn nc) nx ∧ (nx = [] → Value.slice na nn nc = .slice none 0 0)) ∧ AfP m i (l.take (j + 1)) nx) := fun x h hx =>
        ⟨⟨HX2.out.1.trans ((grow_below hx).mono HX2.out.1.size), HX2.out.2.1.grow hx, HX2.out.2.2.1, HX2.out.2.2.2.1.below (grow_below hx), HX2.out.2.2.2.2⟩, by rw [HTL.out.1]; exact HA.out.skip h⟩
      by_cases hop : fop = 1
      case neg =>
        have d1 : (fop == 1) = false := by simpa using hop
        have hno : ¬ m.takes i k := fun h => hop (HTK.out.1 h).1
        refine wp_region_inv 11 (Grow) (by kernel_rfl) (by kernel_rfl) (Grow.refl) (fun _ _ _ => Grow.trans) ?_
        simp only [fill, dstOf, Act.put, List.take_succ_cons, List.take_zero, List.getElem?_toArray, List.getElem?_cons_zero, List.getElem?_cons_succ, Option.bind_some, List.setIfInBounds_toArray, List.set_cons_zero, List.set_cons_succ]
        refine Plan.det 1 rfl (Grow.refl) ?_
        apply Exists.intro
        refine ⟨fun vs x hR hF K hK => ?_, ?_⟩
        · clear hF
          go_simp
          exact hK _ _ (Grow.refl _) rfl
        refine Plan.det 2 rfl (Grow.refl) ?_
        apply Exists.intro
        refine ⟨fun vs x hR hF K hK => ?_, ?_⟩
        · have f0 := hF 0 _ _ rfl rfl; have hc := HC.out x hR; clear hF
          go_simp
          exact hK _ _ (Grow.refl _) rfl
        refine Plan.det 3 rfl (Grow.refl) ?_
        apply Exists.intro
        refine ⟨fun vs x hR hF K hK => ?_, ?_⟩
        · have f1 := hF 0 _ _ rfl rfl; clear hF
          go_simp
          exact hK _ _ (Grow.refl _) rfl
        refine Plan.det 4 rfl (Grow.refl) ?_
        apply Exists.intro
        refine ⟨fun vs x hR hF K hK => ?_, ?_⟩
        · have f2 := hF 0 _ _ rfl rfl; clear hF
          go_simp
          exact hK _ _ (Grow.refl _) rfl
        refine Plan.det 5 rfl (Grow.refl) ?_
        apply Exists.intro
        refine ⟨fun vs x hR hF K hK => ?_, ?_⟩
        · have f3 := hF 0 _ _ rfl rfl; clear hF
          go_simp
          exact hK _ _ (Grow.refl _) rfl
        refine Plan.det 6 rfl (Grow.refl) ?_
        apply Exists.intro
        refine ⟨fun vs x hR hF K hK => ?_, ?_⟩
        · have f3 := hF 1 _ _ rfl rfl; have f4 := hF 0 _ _ rfl rfl; have hc := HC.out x hR; clear hF
          go_simp
          exact hK _ _ (Grow.refl _) rfl
        refine Plan.det 7 rfl (Grow.refl) ?_
        apply Exists.intro
        refine ⟨fun vs x hR hF K hK => ?_, ?_⟩
        · have f3 := hF 2 _ _ rfl rfl; clear hF
          go_simp
          exact hK _ _ (Grow.refl _) rfl
        refine Plan.det 8 rfl (Grow.refl) ?_
        apply Exists.intro
        refine ⟨fun vs x hR hF K hK => ?_, ?_⟩
        · have f3 := hF 3 _ _ rfl rfl; clear hF
          go_simp
          exact hK _ _ (Grow.refl _) rfl
        refine Plan.det 9 rfl (Grow.refl) ?_
        apply Exists.intro
        refine ⟨fun vs x hR hF K hK => ?_, ?_⟩
        · have f3 := hF 4 _ _ rfl rfl; have f6 := hF 1 _ _ rfl rfl; have f7 := hF 0 _ _ rfl rfl; clear hF
          go_simp
          exact hK _ _ (Grow.refl _) rfl
        refine Plan.det 10 rfl (Grow.refl) ?_
        apply Exists.intro
        refine ⟨fun vs x hR hF K hK => ?_, ?_⟩
        · have f3 := hF 5 _ _ rfl rfl; have f5 := hF 3 _ _ rfl rfl; have f8 := hF 0 _ _ rfl rfl; clear hF
          go_simp
          exact hK _ _ (Grow.refl _) rfl
        refine Plan.det 11 rfl (Grow.refl) ?_
        apply Exists.intro
        refine ⟨fun vs x hR hF K hK => ?_, ?_⟩
        · have f3 := hF 6 _ _ rfl rfl; have f9 := hF 0 _ _ rfl rfl; clear hF
          go_simp
          exact hK _ _ (Grow.refl _) rfl
        refine Plan.nil (fun vs x hR hF => ?_)
        have f0 := hF 10 _ _ rfl; have f1 := hF 9 _ _ rfl; have f2 := hF 8 _ _ rfl; have f3 := hF 7 _ _ rfl; have f4 := hF 6 _ _ rfl; have f5 := hF 5 _ _ rfl; have f6 := hF 4 _ _ rfl; have f7 := hF 3 _ _ rfl; have f8 := hF 2 _ _ rfl; have f9 := hF 1 _ _ rfl; have f10 := hF 0 _ _ rfl
        clear hF
        simp only [f0, f1, f2, f3, f4, f5, f6, f7, f8, f9, f10]
        clear f0 f1 f2 f3 f4 f5 f6 f7 f8 f9 f10
        simp only [List.drop_succ_cons, List.drop_zero]
        have HE := hid (HSKIP.out x hno hR)
        clear HC hR hno hop HSKIP
        go_wp2_with fail
        refine ⟨⟨j + 1, nx, na, nn, nc, by omega, rfl, by go_num, HE.out.1, HE.out.2⟩, ?_⟩
        simp [intOf]; omega
      subst hop
      have HH := hid (fun (x : World) => Has_any fset (str[i]'HS.out.2.1).toNat x HWS.out (UInt8.toNat_lt _))
      rcases Bool.eq_false_or_eq_true (fset.has (str[i]'HS.out.2.1).toNat) with hhs | hhs
      case inr =>
        rw [hhs] at HH
        have hno : ¬ m.takes i k := fun h => by rw [(HTK.out.1 h).2] at hhs; cases hhs
        refine wp_region_inv 11 (Grow) (by kernel_rfl) (by kernel_rfl) (Grow.refl) (fun _ _ _ => Grow.trans) ?_
        simp only [fill, dstOf, Act.put, List.take_succ_cons, List.take_zero, List.getElem?_toArray, List.getElem?_cons_zero, List.getElem?_cons_succ, Option.bind_some, List.setIfInBounds_toArray, List.set_cons_zero, List.set_cons_succ]
        refine Plan.det 1 rfl (Grow.refl) ?_
        apply Exists.intro
        refine ⟨fun vs x hR hF K hK => ?_, ?_⟩
        · clear hF
          go_simp
          exact hK _ _ (Grow.refl _) rfl
        refine Plan.det 2 rfl (Grow.refl) ?_
        apply Exists.intro
        refine ⟨fun vs x hR hF K hK => ?_, ?_⟩
        · have f0 := hF 0 _ _ rfl rfl; have hc := HC.out x hR; clear hF
          go_simp
          exact hK _ _ (Grow.refl _) rfl
        refine Plan.det 3 rfl (Grow.refl) ?_
        apply Exists.intro
        refine ⟨fun vs x hR hF K hK => ?_, ?_⟩
        · have f1 := hF 0 _ _ rfl rfl; clear hF
          go_simp
          exact hK _ _ (Grow.refl _) rfl
        refine Plan.det 4 rfl (Grow.refl) ?_
        apply Exists.intro
        refine ⟨fun vs x hR hF K hK => ?_, ?_⟩
        · have f2 := hF 0 _ _ rfl rfl; clear hF
          go_simp
          exact hK _ _ (Grow.refl _) rfl
        refine Plan.det 5 rfl (Grow.refl) ?_
        apply Exists.intro
        refine ⟨fun vs x hR hF K hK => ?_, ?_⟩
        · have f3 := hF 0 _ _ rfl rfl; clear hF
          go_simp
          exact hK _ _ (Grow.refl _) rfl
        refine Plan.det 6 rfl (Grow.refl) ?_
        apply Exists.intro
        refine ⟨fun vs x hR hF K hK => ?_, ?_⟩
        · have f3 := hF 1 _ _ rfl rfl; have f4 := hF 0 _ _ rfl rfl; have hc := HC.out x hR; clear hF
          go_simp
          exact hK _ _ (Grow.refl _) rfl
        refine Plan.det 7 rfl (Grow.refl) ?_
        apply Exists.intro
        refine ⟨fun vs x hR hF K hK => ?_, ?_⟩
        · have f3 := hF 2 _ _ rfl rfl; clear hF
          go_simp
          exact hK _ _ (Grow.refl _) rfl
        refine Plan.det 8 rfl (Grow.refl) ?_
        apply Exists.intro
        refine ⟨fun vs x hR hF K hK => ?_, ?_⟩
        · have f3 := hF 3 _ _ rfl rfl; clear hF
          go_simp
          exact hK _ _ (Grow.refl _) rfl
        refine Plan.det 9 rfl (Grow.refl) ?_
        apply Exists.intro
        refine ⟨fun vs x hR hF K hK => ?_, ?_⟩
        · have f3 := hF 4 _ _ rfl rfl; have f6 := hF 1 _ _ rfl rfl; have f7 := hF 0 _ _ rfl rfl; clear hF
          go_simp
          exact hK _ _ (Grow.refl _) rfl
        refine Plan.det 10 rfl (Grow.refl) ?_
        apply Exists.intro
        refine ⟨fun vs x hR hF K hK => ?_, ?_⟩
        · have f3 := hF 5 _ _ rfl rfl; have f5 := hF 3 _ _ rfl rfl; have f8 := hF 0 _ _ rfl rfl; clear hF
          go_simp
          refine (HH.out x).mono ?_
          rintro e x1 ⟨rfl, hbe⟩
          exact ⟨_, rfl, hK _ _ hbe rfl⟩
        refine Plan.det 11 rfl (Grow.refl) ?_
        apply Exists.intro
        refine ⟨fun vs x hR hF K hK => ?_, ?_⟩
        · have f3 := hF 6 _ _ rfl rfl; have f9 := hF 0 _ _ rfl rfl; clear hF
          go_simp
          exact hK _ _ (Grow.refl _) rfl
        refine Plan.nil (fun vs x hR hF => ?_)
        have f0 := hF 10 _ _ rfl; have f1 := hF 9 _ _ rfl; have f2 := hF 8 _ _ rfl; have f3 := hF 7 _ _ rfl; have f4 := hF 6 _ _ rfl; have f5 := hF 5 _ _ rfl; have f6 := hF 4 _ _ rfl; have f7 := hF 3 _ _ rfl; have f8 := hF 2 _ _ rfl; have f9 := hF 1 _ _ rfl; have f10 := hF 0 _ _ rfl
        clear hF
        simp only [f0, f1, f2, f3, f4, f5, f6, f7, f8, f9, f10]
        clear f0 f1 f2 f3 f4 f5 f6 f7 f8 f9 f10
        simp only [List.drop_succ_cons, List.drop_zero]
        have HE := hid (HSKIP.out x hno hR)
        clear HC hR hno hhs HSKIP
        go_wp2_with fail
        refine ⟨⟨j + 1, nx, na, nn, nc, by omega, rfl, by go_num, HE.out.1, HE.out.2⟩, ?_⟩
        simp [intOf]; omega
      rw [hhs] at HH
      have htk : m.takes i k := HTK.out.2 ⟨rfl, hhs⟩
      have hk1 := HTL.out.2 htk
      have HTKK := hid (⟨htk, hk1⟩ : _ ∧ _)
      clear htk hk1 hhs HSKIP
      refine wp_region_inv 11 (Grow) (by kernel_rfl) (by kernel_rfl) (Grow.refl) (fun _ _ _ => Grow.trans) ?_
      simp only [fill, dstOf, Act.put, List.take_succ_cons, List.take_zero, List.getElem?_toArray, List.getElem?_cons_zero, List.getElem?_cons_succ, Option.bind_some, List.setIfInBounds_toArray, List.set_cons_zero, List.set_cons_succ]
      refine Plan.det 1 rfl (Grow.refl) ?_
      apply Exists.intro
      refine ⟨fun vs x hR hF K hK => ?_, ?_⟩
      · clear hF
        go_simp
        exact hK _ _ (Grow.refl _) rfl
      refine Plan.det 2 rfl (Grow.refl) ?_
      apply Exists.intro
      refine ⟨fun vs x hR hF K hK => ?_, ?_⟩
      · have f0 := hF 0 _ _ rfl rfl; have hc := HC.out x hR; clear hF
        go_simp
        exact hK _ _ (Grow.refl _) rfl
      refine Plan.det 3 rfl (Grow.refl) ?_
      apply Exists.intro
      refine ⟨fun vs x hR hF K hK => ?_, ?_⟩
      · have f1 := hF 0 _ _ rfl rfl; clear hF
        go_simp
        exact hK _ _ (Grow.refl _) rfl
      refine Plan.det 4 rfl (Grow.refl) ?_
      apply Exists.intro
      refine ⟨fun vs x hR hF K hK => ?_, ?_⟩
      · have f2 := hF 0 _ _ rfl rfl; clear hF
        go_simp
        exact hK _ _ (Grow.refl _) rfl
      refine Plan.det 5 rfl (Grow.refl) ?_
      apply Exists.intro
      refine ⟨fun vs x hR hF K hK => ?_, ?_⟩
      · have f3 := hF 0 _ _ rfl rfl; clear hF
        go_simp
        exact hK _ _ (Grow.refl _) rfl
      refine Plan.det 6 rfl (Grow.refl) ?_
      apply Exists.intro
      refine ⟨fun vs x hR hF K hK => ?_, ?_⟩
      · have f3 := hF 1 _ _ rfl rfl; have f4 := hF 0 _ _ rfl rfl; have hc := HC.out x hR; clear hF
        go_simp
        exact hK _ _ (Grow.refl _) rfl
      refine Plan.det 7 rfl (Grow.refl) ?_
      apply Exists.intro
      refine ⟨fun vs x hR hF K hK => ?_, ?_⟩
      · have f3 := hF 2 _ _ rfl rfl; clear hF
        go_simp
        exact hK _ _ (Grow.refl _) rfl
      refine Plan.det 8 rfl (Grow.refl) ?_
      apply Exists.intro
      refine ⟨fun vs x hR hF K hK => ?_, ?_⟩
      · have f3 := hF 3 _ _ rfl rfl; clear hF
        go_simp
        exact hK _ _ (Grow.refl _) rfl
      refine Plan.det 9 rfl (Grow.refl) ?_
      apply Exists.intro
      refine ⟨fun vs x hR hF K hK => ?_, ?_⟩
      · have f3 := hF 4 _ _ rfl rfl; have f6 := hF 1 _ _ rfl rfl; have f7 := hF 0 _ _ rfl rfl; clear hF
        go_simp
        exact hK _ _ (Grow.refl _) rfl
      refine Plan.det 10 rfl (Grow.refl) ?_
      apply Exists.intro
      refine ⟨fun vs x hR hF K hK => ?_, ?_⟩
      · have f3 := hF 5 _ _ rfl rfl; have f5 := hF 3 _ _ rfl rfl; have f8 := hF 0 _ _ rfl rfl; clear hF
        go_simp
        refine (HH.out x).mono ?_
        rintro e x1 ⟨rfl, hbe⟩
        exact ⟨_, rfl, hK _ _ hbe rfl⟩
      refine Plan.det 11 rfl (Grow.refl) ?_
      apply Exists.intro
      refine ⟨fun vs x hR hF K hK => ?_, ?_⟩
      · have f3 := hF 6 _ _ rfl rfl; have f9 := hF 0 _ _ rfl rfl; clear hF
        go_simp
        exact hK _ _ (Grow.refl _) rfl
      refine Plan.nil (fun vs x hR hF => ?_)
      have f0 := hF 10 _ _ rfl; have f1 := hF 9 _ _ rfl; have f2 := hF 8 _ _ rfl; have f3 := hF 7 _ _ rfl; have f4 := hF 6 _ _ rfl; have f5 := hF 5 _ _ rfl; have f6 := hF 4 _ _ rfl; have f7 := hF 3 _ _ rfl; have f8 := hF 2 _ _ rfl; have f9 := hF 1 _ _ rfl; have f10 := hF 0 _ _ rfl
      clear hF
      simp only [f0, f1, f2, f3, f4, f5, f6, f7, f8, f9, f10]
      clear f0 f1 f2 f3 f4 f5 f6 f7 f8 f9 f10
      simp only [List.drop_succ_cons, List.drop_zero]
      have HX3 := hid (⟨HX2.out.1.trans ((grow_below hR).mono HX2.out.1.size), HX2.out.2.1.grow hR, HX2.out.2.2.1, HX2.out.2.2.2.1.below (grow_below hR), HX2.out.2.2.2.2⟩ : Below w.heap.size w x ∧ Row x b0 [.slice (some ⟨ib, io, none⟩) m.L.length c, .bool m.lines] 35 ∧ nn = nx.length ∧ OwnN9 x w.heap.size (.slice na nn nc) nx ∧ (nx = [] → Value.slice na nn nc = .slice none 0 0))
      have HLC3 : Hid (bb < x.heap.size ∧ x.cell? ⟨bb, j, none⟩ = some (.int .i64 k)) := ⟨Nat.lt_of_lt_of_le HLC.out.1 (grow_below hR).size, ((grow_below hR).cell (p := ⟨bb, j, none⟩) HLC.out.1).trans HLC.out.2⟩
      clear HC hR HX2 HLC HRS HH hbyte
      go_wp2_with fail
      have HC := hid (fun (y : World) (hy : Grow x.drew y) => (⟨(HX3.out.2.1.grow hy).cell 0, (HX3.out.2.1.grow hy).cell 1, ((grow_below hy).cell (p := ⟨bb, j, none⟩) HLC3.out.1).trans HLC3.out.2⟩ : _ ∧ _ ∧ _))
      generalize hxx : x = x0 at *
      have HXX := hid hxx
      clear hxx
      refine wp_region_inv 10 (Grow) (by kernel_rfl) (by kernel_rfl) (Grow.refl) (fun _ _ _ => Grow.trans) ?_
      simp only [fill, dstOf, Act.put, List.take_succ_cons, List.take_zero, List.getElem?_toArray, List.getElem?_cons_zero, List.getElem?_cons_succ, Option.bind_some, List.setIfInBounds_toArray, List.set_cons_zero, List.set_cons_succ]
      refine Plan.det 1 rfl (Grow.refl) ?_
      apply Exists.intro
      refine ⟨fun vs x hR hF K hK => ?_, ?_⟩
      · have hc := HC.out x hR; clear hF
        go_simp
        exact hK _ _ (Grow.refl _) rfl
      refine Plan.det 2 rfl (Grow.refl) ?_
      apply Exists.intro
      refine ⟨fun vs x hR hF K hK => ?_, ?_⟩
      · clear hF
        go_simp
        exact hK _ _ (Grow.refl _) rfl
      refine Plan.det 3 rfl (Grow.refl) ?_
      apply Exists.intro
      refine ⟨fun vs x hR hF K hK => ?_, ?_⟩
      · clear hF
        go_simp
        exact hK _ _ (Grow.refl _) rfl
      refine Plan.det 4 rfl (Grow.refl) ?_
      apply Exists.intro
      refine ⟨fun vs x hR hF K hK => ?_, ?_⟩
      · have f2 := hF 0 _ _ rfl rfl; clear hF
        go_simp
        exact hK _ _ (Grow.refl _) rfl
      refine Plan.det 5 rfl (Grow.refl) ?_
      apply Exists.intro
      refine ⟨fun vs x hR hF K hK => ?_, ?_⟩
      · clear hF
        go_simp
        exact hK _ _ (Grow.refl _) rfl
      refine Plan.det 6 rfl (Grow.refl) ?_
      apply Exists.intro
      refine ⟨fun vs x hR hF K hK => ?_, ?_⟩
      · clear hF
        go_simp
        exact hK _ _ (Grow.refl _) rfl
      refine Plan.det 7 rfl (Grow.refl) ?_
      apply Exists.intro
      refine ⟨fun vs x hR hF K hK => ?_, ?_⟩
      · have f4 := hF 1 _ _ rfl rfl; have f5 := hF 0 _ _ rfl rfl; clear hF
        go_simp
        exact hK _ _ (Grow.refl _) rfl
      refine Plan.det 8 rfl (Grow.refl) ?_
      apply Exists.intro
      refine ⟨fun vs x hR hF K hK => ?_, ?_⟩
      · have f6 := hF 0 _ _ rfl rfl; have hc := HC.out x hR; clear hF
        go_simp
        exact hK _ _ (Grow.refl _) rfl
      refine Plan.det 9 rfl (Grow.refl) ?_
      apply Exists.intro
      refine ⟨fun vs x hR hF K hK => ?_, ?_⟩
      · have f7 := hF 0 _ _ rfl rfl; clear hF
        go_simp
        exact hK _ _ (Grow.refl _) rfl
      refine Plan.det 10 rfl (Grow.refl) ?_
      apply Exists.intro
      refine ⟨fun vs x hR hF K hK => ?_, ?_⟩
      · clear hF
        go_simp
        exact hK _ _ (Grow.refl _) rfl
      refine Plan.nil (fun vs x hR hF => ?_)
      have f0 := hF 9 _ _ rfl; have f1 := hF 8 _ _ rfl; have f2 := hF 7 _ _ rfl; have f3 := hF 6 _ _ rfl; have f4 := hF 5 _ _ rfl; have f5 := hF 4 _ _ rfl; have f6 := hF 3 _ _ rfl; have f7 := hF 2 _ _ rfl; have f8 := hF 1 _ _ rfl; have f9 := hF 0 _ _ rfl
      clear hF
      simp only [f0, f1, f2, f3, f4, f5, f6, f7, f8, f9]
      clear f0 f1 f2 f3 f4 f5 f6 f7 f8 f9
      simp only [List.drop_succ_cons, List.drop_zero]
      have HX4 := hid (⟨HX3.out.1.trans ((grow_below hR).mono HX3.out.1.size), HX3.out.2.1.grow hR, HX3.out.2.2.1, HX3.out.2.2.2.1.below (grow_below hR), HX3.out.2.2.2.2⟩ : Below w.heap.size w x ∧ Row x b0 [.slice (some ⟨ib, io, none⟩) m.L.length c, .bool m.lines] 35 ∧ nn = nx.length ∧ OwnN9 x w.heap.size (.slice na nn nc) nx ∧ (nx = [] → Value.slice na nn nc = .slice none 0 0))
      have hrin : RcIn x m (some ⟨ib, io, none⟩) w.heap.size (.slice na nn nc) nx := ⟨HIN0.out.ins.below HX4.out.1 (Nat.le_refl _), fun b o h => by
        obtain ⟨b', o', h1, h2, -⟩ := HIN0.out.ins.at (k := k) (by have := HTKK.out.2; omega)
        rw [h1] at h
        injection h with h
        injection h with h
        omega, HX4.out.1.size, HX4.out.2.2.2.1, HA.out.nd, HA.out.lt⟩
      have HRIN := hid hrin
      have hcall := reach_any m ib io c str (i + 1) HS.out.1 (by have := HS.out.2.1; omega) HS.out.2.2 HRR.out (m.L.length + 1) x w.heap.size (.slice na nn nc) nx (k + 1) (by omega) hrin HTKK.out.2
      rw [show ((i + 1 : Nat) : Int) = (i : Int) + 1 by omega, show ((k + 1 : Nat) : Int) = (k : Int) + 1 by omega] at hcall
      have HCALL := hid hcall
      clear hcall hrin HC hR HX3 HLC3
      go_wp2_with fail
      refine HCALL.out.mono ?_
      rintro e w5 ⟨l4, a4, c4, rfl, ho4, hr4, hb4, hg4⟩
      have hne : b0 ∉ own (.slice na nn nc) := HX4.out.2.2.2.1.ne_row HX4.out.2.1 (by decide)
      have HF := hid (⟨⟨HX4.out.1.trans (hb4.below HX4.out.1.size fun g hg => (HX4.out.2.2.2.1.blocks g hg).1), HX4.out.2.1.but hb4 hne, rfl, ho4, fun h => absurd hr4.self (by rw [h]; simp)⟩, by rw [HTL.out.1]; exact HA.out.take HTKK.out.1 hr4⟩ : (Below w.heap.size w w5 ∧ Row w5 b0 [.slice (some ⟨ib, io, none⟩) m.L.length c, .bool m.lines] 35 ∧ l4.length = l4.length ∧ OwnN9 w5 w.heap.size (.slice a4 l4.length c4) l4 ∧ (l4 = [] → Value.slice a4 l4.length c4 = .slice none 0 0)) ∧ AfP m i (l.take (j + 1)) l4)
      clear ho4 hr4 hb4 hg4 hne
      go_wp2_with fail
      refine ⟨⟨j + 1, l4, a4, l4.length, c4, by omega, rfl, by go_num, ⟨HF.out.1.1, HF.out.1.2.1, rfl, HF.out.1.2.2.2.1, HF.out.1.2.2.2.2⟩, HF.out.2⟩, ?_⟩
      simp [intOf]; omega
    · have hjI : ¬ (j : Int) < l.length := by omega
      have HE := HA.out
      rw [List.take_of_length_le (by omega)] at HE
      have HE := hid HE
      have hnn := HX.out.2.2.1
      subst hnn
      clear HA
      go_wp2_with fail
      go_ret
      exact ⟨nx, na, nc, rfl, HX.out.2.2.2.1.q HX.out.2.2.2.2, HX.out.1, HE.out⟩
end Go.Proofs.YthnpbopnpdlmnaaDoor

/- The text of a parse determines it. Nothing here speaks of the program's memory. -/
namespace Go.Proofs.YthnpbopnpdlmnaaDoor
open Go.RowKit Go.Lib

def decVal (l : List UInt8) : Nat := l.foldl (fun a d => a * 10 + (d.toNat - 48)) 0
theorem decDigits_spec (u : Nat) : decVal (decDigits u) = u ∧ ∀ d, d ∈ decDigits u → 48 ≤ d.toNat ∧ d.toNat ≤ 57 := by
  induction u using Nat.strongRecOn with
  | _ u ih =>
    rw [decDigits]
    have h1 : ∀ k, k < 10 → (UInt8.ofNat (48 + k)).toNat = 48 + k := fun k hk => by simp; omega
    by_cases h : u < 10
    · rw [dif_pos h]
      refine ⟨?_, fun d hd => ?_⟩
      · simp only [decVal, List.foldl_cons, List.foldl_nil, h1 u h]; omega
      · rw [List.mem_singleton.1 hd, h1 u h]; omega
    · rw [dif_neg h]
      obtain ⟨h2, h3⟩ := ih (u / 10) (by omega)
      have h4 := h1 (u % 10) (by omega)
      refine ⟨?_, fun d hd => ?_⟩
      · unfold decVal at h2 ⊢
        rw [List.foldl_append, h2]
        simp only [List.foldl_cons, List.foldl_nil, h4]
        omega
      · rcases List.mem_append.1 hd with hd | hd
        · exact h3 d hd
        · rw [List.mem_singleton.1 hd, h4]; omega
theorem decDigits_inj {a b : Nat} (h : decDigits a = decDigits b) : a = b := by rw [← (decDigits_spec a).1, h, (decDigits_spec b).1]
theorem itoa_mem {n : Int} {d : UInt8} (h : d ∈ itoa n) : d.toNat = 45 ∨ 48 ≤ d.toNat ∧ d.toNat ≤ 57 := by
  unfold itoa at h
  split at h
  · rcases List.mem_cons.1 h with h | h
    · subst h; exact .inl rfl
    · exact .inr ((decDigits_spec _).2 d h)
  · exact .inr ((decDigits_spec _).2 d h)
theorem itoa_inj {a b : Int} (h : itoa a = itoa b) : a = b := by
  have key : ∀ (x : Nat) (y : List UInt8), decDigits x ≠ 45 :: y := fun x y e => by
    have := (decDigits_spec x).2 45 (by rw [e]; simp)
    have h45 : (45 : UInt8).toNat = 45 := rfl
    omega
  unfold itoa at h
  by_cases h1 : a < 0 <;> by_cases h2 : b < 0
  · rw [if_pos h1, if_pos h2] at h
    have := decDigits_inj (List.cons.inj h).2
    omega
  · rw [if_pos h1, if_neg h2] at h
    exact absurd h.symm (key _ _)
  · rw [if_neg h1, if_pos h2] at h
    exact absurd h (key _ _)
  · rw [if_neg h1, if_neg h2] at h
    have := decDigits_inj h
    omega
def keyMore (l : List Int) : List UInt8 := l.flatMap fun m => 32 :: itoa m
def keyN (n : Int) (l : List Int) : List UInt8 := itoa n ++ keyMore l
theorem word_split : ∀ {u v r s : List UInt8}, (∀ d, d ∈ u → d ≠ 32) → (∀ d, d ∈ v → d ≠ 32) → (r = [] ∨ ∃ r', r = 32 :: r') → (s = [] ∨ ∃ s', s = 32 :: s') → u ++ r = v ++ s → u = v ∧ r = s
  | [], [], r, s, _, _, _, _, h => ⟨rfl, by simpa using h⟩
  | [], d :: v, r, s, _, hv, hr, _, h => by
    rcases hr with rfl | ⟨r', rfl⟩
    · simp at h
    · simp only [List.nil_append, List.cons_append, List.cons.injEq] at h
      exact absurd h.1.symm (hv d (by simp))
  | d :: u, [], r, s, hu, _, _, hs, h => by
    rcases hs with rfl | ⟨s', rfl⟩
    · simp at h
    · simp only [List.nil_append, List.cons_append, List.cons.injEq] at h
      exact absurd h.1 (hu d (by simp))
  | d :: u, e :: v, r, s, hu, hv, hr, hs, h => by
    simp only [List.cons_append, List.cons.injEq] at h
    obtain ⟨h1, h2⟩ := word_split (fun x hx => hu x (by simp [hx])) (fun x hx => hv x (by simp [hx])) hr hs h.2
    exact ⟨by rw [h.1, h1], h2⟩
theorem keyMore_form (l : List Int) : keyMore l = [] ∨ ∃ r, keyMore l = 32 :: r := by
  cases l with
  | nil => exact .inl rfl
  | cons a l => exact .inr ⟨_, rfl⟩
theorem itoa_no32 (n : Int) : ∀ d, d ∈ itoa n → d ≠ 32 := fun d hd e => by
  have := itoa_mem hd
  subst e
  have h32 : (32 : UInt8).toNat = 32 := rfl
  omega
theorem keyMore_inj : ∀ {l m : List Int}, keyMore l = keyMore m → l = m
  | [], [], _ => rfl
  | [], b :: m, h => by simp [keyMore] at h
  | a :: l, [], h => by simp [keyMore] at h
  | a :: l, b :: m, h => by
    have h' : itoa a ++ keyMore l = itoa b ++ keyMore m := by
      have h0 : keyMore (a :: l) = 32 :: (itoa a ++ keyMore l) := rfl
      have h1 : keyMore (b :: m) = 32 :: (itoa b ++ keyMore m) := rfl
      rw [h0, h1] at h
      exact (List.cons.inj h).2
    obtain ⟨h1, h2⟩ := word_split (itoa_no32 a) (itoa_no32 b) (keyMore_form l) (keyMore_form m) h'
    rw [itoa_inj h1, keyMore_inj h2]
def spNums (sp : Spans) : List Int := sp.flatMap fun x => [x.1, x.2]
theorem spNums_inj : ∀ {a b : Spans}, spNums a = spNums b → a = b
  | [], [], _ => rfl
  | [], y :: b, h => by simp [spNums] at h
  | x :: a, [], h => by simp [spNums] at h
  | (x1, x2) :: a, (y1, y2) :: b, h => by
    have h0 : x1 :: x2 :: spNums a = y1 :: y2 :: spNums b := h
    simp only [List.cons.injEq] at h0
    rw [h0.1, h0.2.1, spNums_inj h0.2.2]
def keyB (q : Parse) : List UInt8 := keyN q.1 (spNums q.2)
theorem keyB_inj {a b : Parse} (h : keyB a = keyB b) : a = b := by
  obtain ⟨a1, a2⟩ := a
  obtain ⟨b1, b2⟩ := b
  unfold keyB keyN at h
  obtain ⟨h1, h2⟩ := word_split (itoa_no32 _) (itoa_no32 _) (keyMore_form _) (keyMore_form _) h
  have h3 : (a1 : Int) = b1 := itoa_inj h1
  have h4 := spNums_inj (keyMore_inj h2)
  dsimp only at h4
  rw [h4, show a1 = b1 by omega]
theorem keyB_mem {a : Parse} {l : List Parse} : keyB a ∈ l.map keyB ↔ a ∈ l := by
  rw [List.mem_map]
  constructor
  · rintro ⟨b, hb, e⟩
    rw [← keyB_inj e]; exact hb
  · exact fun h => ⟨a, h, rfl⟩
end Go.Proofs.YthnpbopnpdlmnaaDoor
