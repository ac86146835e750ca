/- The program's next: the threads behind a byte. Written by gen_next.py. -/
import Derived.Test.YthnpbopnpdlmnaaX16
import Derived.Test.YthnpbopnpdlmnaaX18
namespace Go.Proofs.Ythnpbopnpdlmnaa
open Go.RowKit
attribute [local go_sem] gives givesUpon

def NxPost (wb w : World) (m : Sim) (M : Nat) (a : Option Addr) (c : Nat) (str : ByteArray) (st : Int) (sv : Value) (T : List (Nat × Nat)) (kp : Nat × Nat → Bool) (i : Nat) (e : Ending) (w' : World) : Prop :=
  ∃ (mk' : Nat → Int) (sv' lv' : Value) (St' : List Nat) (out : List (Nat × Nat)), e = .returned lv' ∧ RchM wb w m M a c str (st + 1) sv (.slice none 0 0) mk' sv' St' lv' out w' ∧ Outs m (i + 1) (starts m i kp T) out ∧ (∀ k, mk' k = st + 1 ↔ ∃ s, s ∈ starts m i kp T ∧ m.Reach (i + 1) (· = s.1) k) ∧ (∀ k, mk' k ≤ st + 1) ∧ (∀ k, mk' k = st + 1 → ∀ j, j ∈ m.eps (i + 1) k → mk' j = st + 1) ∧ out.length + unv mk' (st + 1) m.L.length ≤ m.L.length

set_option maxRecDepth 100000 in
set_option maxHeartbeats 16000000 in
theorem next_all_any (wb w : World) (m : Sim) (M : Nat) (a : Option Addr) (c : Nat) (str : ByteArray) (st : Int) (sv lv : Value) (mk : Nat → Int) (St0 : List Nat) (T : List (Nat × Nat)) (i : Nat) (kp : Nat × Nat → Bool) (env : Env wb m a str)
    (h : RchM wb w m M a c str st sv lv mk sv St0 lv T w) (hi : i < str.size) (hT : T.length ≤ 4096) (hTl : ∀ t, t ∈ T → t.1 < m.L.length ∧ t.2 ≤ 1000000) (hmk : ∀ k, mk k ≤ st) (hst : 0 ≤ st ∧ st ≤ 1000000)
    (HK : ∀ (w' : World) (t : Nat × Nat), But (M :: ob sv) w w' → Calls Try.prog 43 #[.agg #[.int .i64 t.1, .int .i64 t.2]] w' fun e w'' => e = .returned (.bool (kp t)) ∧ Below w'.heap.size w' w'') :
    Calls Try.prog 42 #[.pointer (some ⟨M, 0, none⟩), lv, .int .i64 i, .func (.func 43) #[] #[]] w (NxPost wb w m M a c str st sv T kp i) := by
  have HE := hid env
  have hn2 := env.right.1.2
  have hshort := env.short
  have HPP : Hid (∀ (mk' : Nat → Int) (sv' lv' : Value) (St' : List Nat) (out : List (Nat × Nat)) (w' : World), RchM wb w m M a c str (st + 1) sv (.slice none 0 0) mk' sv' St' lv' out w' → Outs m (i + 1) (starts m i kp T) out → (∀ k, mk' k = st + 1 ↔ ∃ s, s ∈ starts m i kp T ∧ m.Reach (i + 1) (· = s.1) k) → (∀ k, mk' k ≤ st + 1) → (∀ k, mk' k = st + 1 → ∀ j, j ∈ m.eps (i + 1) k → mk' j = st + 1) → out.length + unv mk' (st + 1) m.L.length ≤ m.L.length → NxPost wb w m M a c str st sv T kp i (.returned lv') w') := fun mk' sv' lv' St' out w' h1 h2 h3 h4 h5 h6 => ⟨mk', sv', lv', St', out, rfl, h1, h2, h3, h4, h5, h6⟩
  generalize NxPost wb w m M a c str st sv T kp i = PP at *
  obtain ⟨lad, lcap, hlv⟩ := ownsRow_shape h.lst
  subst hlv
  have q := h.sim.cells
  have hz := h.sim.lt
  have hfree := h.sim.free
  have HL := hid h.lst
  have HLM := hid h.lst_ne
  have HLS := hid (fun g hg => h.apart g hg)
  have hr0 : RchM wb w m M a c str st sv (.slice none 0 0) mk sv St0 (.slice none 0 0) [] w := ⟨h.sim, h.stk, World.ownsRow_nil _ _ _ _, h.lo, h.low, But.refl _ _, fun g hg => .inl hg, fun g hg => by simp [ob, Value.ownBlock] at hg⟩
  have HR0 := hid (hr0.step (st + 1))
  have HMK := hid hmk
  have HTL := hid hTl
  have HKK := hid HK
  have HTI : Hid (T.length ≤ 4096) := hT
  clear h hr0 hmk hTl HK env
  have hst1 := hst.1
  have hst2 := hst.2
  clear hst
  go_enter Try.func42, Try.ntmps42
  go_wp2_with fail
  generalize w.setCell ⟨M, 4099, none⟩ (.int .i64 (st + 1)) = w1 at *
  clear q hz hfree
  go_loopw [9, 22] (fun v ix wr => ∃ (q : Nat) (mk' : Nat → Int) (sv' : Value) (St' : List Nat) (la : Option Addr) (lc ln : Nat) (out : List (Nat × Nat)), q ≤ T.length ∧ v = .slice la ln lc ∧ ix = .int .i64 q ∧ Hid (RchM wb w m M a c str (st + 1) sv (.slice none 0 0) mk' sv' St' (.slice la ln lc) out wr) ∧
    Hid (Outs m (i + 1) (starts m i kp (T.take q)) out) ∧ Hid (∀ k, mk' k = st + 1 ↔ ∃ s, s ∈ starts m i kp (T.take q) ∧ m.Reach (i + 1) (· = s.1) k) ∧ Hid (∀ k, mk' k ≤ st + 1) ∧ Hid (∀ k, mk' k = st + 1 → ∀ j, j ∈ m.eps (i + 1) k → mk' j = st + 1) ∧ out.length + unv mk' (st + 1) m.L.length ≤ m.L.length) (fun _ ix _ => T.length - (intOf ix).toNat)
  case atStart =>
    refine ⟨0, mk, sv, St0, none, 0, 0, [], by omega, rfl, rfl, HR0.out, Outs.nil _ _, fun k => ⟨fun h => ?_, fun ⟨s, hs, _⟩ => by simp [starts] at hs⟩, fun k => ?_, fun k h => ?_, ?_⟩
    · have := HMK.out k; omega
    · have := HMK.out k; omega
    · have := HMK.out k; omega
    · have := unv_le mk (st + 1) m.L.length; simpa using this
  case round =>
    obtain ⟨q, mk', sv', St', la, lc, ln, out, hq, rfl, rfl, HR, HO, HV, HM, HC0, hun⟩ := hrel
    rcases Nat.lt_or_ge q T.length with hlt | hge
    · have hbu : But (M :: ob sv) w wr := HR.out.but.mono fun k hk => .inl (by simpa [ob, Value.ownBlock] using hk)
      have HBU := hid hbu
      have hlst : wr.ownsRow wb.heap.size 96 2 (.slice lad T.length lcap) T.length (T.flatMap tcells) := ownsRow_heap HL.out fun g hg => hbu.block g (HL.out.lt g hg).2 (fun hm => by
        rcases List.mem_cons.1 hm with rfl | hm
        · exact HLM.out _ hg rfl
        · exact HLS.out g (mem_ob.1 hm) hg)
      obtain ⟨tg, htg, htc⟩ : ∃ g, lad = some ⟨g, 0, none⟩ ∧ (wr.cell? ⟨g, q * 2, none⟩ = some (.int .i64 (T[q].1 : Nat)) ∧ wr.cell? ⟨g, q * 2 + 1, none⟩ = some (.int .i64 (T[q].2 : Nat))) := by
        obtain ⟨-, h2⟩ := id hlst
        rcases h2 with ⟨-, h2⟩ | ⟨g, cap, cur, hv, -⟩
        · omega
        · injection hv with e1
          subst e1
          refine ⟨g, rfl, ?_, ?_⟩
          · have h1 := World.ownsRow.cells hlst (g := g) rfl (q * 2) (.int .i64 (T[q].1 : Nat)) (by have h0 := flatT_get T q 0 hlt (by omega); rw [Nat.add_zero] at h0; rw [h0]; rfl)
            rw [Addr.add_lit, Nat.zero_add] at h1
            exact h1
          · have h1 := World.ownsRow.cells hlst (g := g) rfl (q * 2 + 1) (.int .i64 (T[q].2 : Nat)) (by rw [flatT_get T q 1 hlt (by omega)]; rfl)
            rw [Addr.add_lit, Nat.zero_add] at h1
            exact h1
      subst htg
      obtain ⟨tc0, tc1⟩ := htc
      have htl := HTL.out T[q] (List.getElem_mem hlt)
      have HSY := hid (fun h1 h2 => @starts_yes m i kp T q hlt h1 h2)
      have HSN := hid (fun h1 => @starts_no m i kp T q hlt h1)
      have hqI : (q : Int) < (T.length : Int) := by omega
      have hqT : T.length ≤ 4096 := HTI.out
      clear hlst hbu
      generalize T[q] = t at *
      obtain ⟨k, fr⟩ := t
      simp only at tc0 tc1 htl
      obtain ⟨hkn, hfr⟩ := htl
      obtain ⟨fb, fo, hfa, hfb, hfc⟩ := HE.out.ins.at hkn
      have hfi := Sim.inst_eq hkn
      have hwf := HE.out.wf k hkn
      have hright := Sim.right_of HE.out.right hkn
      have HF : Hid (∀ w', Below wb.heap.size wb w' → CellsAt w' fb (fo + k * 7) (m.L[k].cells)) := by
        intro w' hb' j v hj
        rw [hb'.cell (p := ⟨fb, fo + k * 7 + j, none⟩) hfb]
        exact hfc j v hj
      clear hfc
      subst hfa
      have HGO : Hid (goes m i (k, fr) = (decide ((m.inst k).op = 1) && (m.inst k).set.has (m.byte i))) := rfl
      rw [hfi] at HGO hright
      generalize m.L[k] = f at *
      obtain ⟨fop, fset, fx, fy⟩ := f
      have HF2 : Hid (∀ w', Below wb.heap.size wb w' → CellsAt w' fb (fo + k * 7) [.int .i64 fop, .int .u64 fset.a, .int .u64 fset.b, .int .u64 fset.c, .int .u64 fset.d, .int .i64 fx, .int .i64 fy]) := HF.out
      have HWF := hid hwf
      clear HF hfi hwf
      simp only at HGO hright
      unfold Inst.right at hright
      simp only at hright
      have hcI : (k : Int) < (m.L.length : Int) := by omega
      go_upto_region 6 with fail
      have HBT : Hid (Row (wr.alloc (.cells #[.int .i64 k, .int .i64 fr] 96)) wr.heap.size [.int .i64 k, .int .i64 fr] 96) := Row.at wr [.int .i64 k, .int .i64 fr] _
      have HR1 := hid (HR.out.more ((Below.refl _ wr).alloc (Nat.le_refl _) (.cells #[.int .i64 k, .int .i64 fr] 96)))
      have HBU1 := hid (HBU.out.later (S' := []) (But.of_below ((Below.refl _ wr).alloc (Nat.le_refl _) (.cells #[.int .i64 k, .int .i64 fr] 96))) (fun i hi => by cases hi))
      clear tc0 tc1 HR HBU
      generalize wr.alloc (.cells #[.int .i64 k, .int .i64 fr] 96) = y1 at *
      generalize wr.heap.size = bt at *
      have HC := hid (fun (x : World) (hx : Grow y1.drew x) => And.intro (show x.cell? ⟨M, 0, none⟩ = some (.slice (some ⟨fb, fo, none⟩) m.L.length c) from (HR1.out.more (show Below y1.heap.size y1 x from ⟨hx.os, hx.tape, hx.output, hx.size, hx.block⟩)).sim.cells.1) (And.intro (show x.cell? ⟨bt, 0, none⟩ = some (.int .i64 k) from (HBT.out.below (show Below y1.heap.size y1 x from ⟨hx.os, hx.tape, hx.output, hx.size, hx.block⟩) HBT.out.lt).cell 0) (cells7 (HF2.out x (HR1.out.more (show Below y1.heap.size y1 x from ⟨hx.os, hx.tape, hx.output, hx.size, hx.block⟩)).low))))
      refine wp_region_inv 10 (Grow) (by kernel_rfl) (by kernel_rfl) (Grow.refl) (fun _ _ _ => Grow.trans) ?_
      simp only [fill, dstOf, Act.put, List.take_succ_cons, List.take_zero, List.getElem?_toArray, List.getElem?_cons_zero, List.getElem?_cons_succ, Option.bind_some, List.setIfInBounds_toArray, List.set_cons_zero, List.set_cons_succ]
      refine Plan.det 1 rfl (Grow.refl) ?_
      apply Exists.intro
      refine ⟨fun vs x hR hF K hK => ?_, ?_⟩
      · clear hF
        go_simp
        exact hK _ _ (Grow.refl _) rfl
      refine Plan.det 2 rfl (Grow.refl) ?_
      apply Exists.intro
      refine ⟨fun vs x hR hF K hK => ?_, ?_⟩
      · have f0 := hF 0 _ _ rfl rfl; clear hF
        go_simp
        exact hK _ _ (Grow.refl _) rfl
      refine Plan.det 3 rfl (Grow.refl) ?_
      apply Exists.intro
      refine ⟨fun vs x hR hF K hK => ?_, ?_⟩
      · have f1 := hF 0 _ _ rfl rfl; clear hF
        go_simp
        exact hK _ _ (Grow.refl _) rfl
      refine Plan.det 4 rfl (Grow.refl) ?_
      apply Exists.intro
      refine ⟨fun vs x hR hF K hK => ?_, ?_⟩
      · have f2 := hF 0 _ _ rfl rfl; clear hF
        go_simp
        exact hK _ _ (Grow.refl _) rfl
      refine Plan.det 5 rfl (Grow.refl) ?_
      apply Exists.intro
      refine ⟨fun vs x hR hF K hK => ?_, ?_⟩
      · have f3 := hF 0 _ _ rfl rfl; have hc := HC.out x hR; clear hF
        go_simp
        exact hK _ _ (Grow.refl _) rfl
      refine Plan.det 6 rfl (Grow.refl) ?_
      apply Exists.intro
      refine ⟨fun vs x hR hF K hK => ?_, ?_⟩
      · clear hF
        go_simp
        exact hK _ _ (Grow.refl _) rfl
      refine Plan.det 7 rfl (Grow.refl) ?_
      apply Exists.intro
      refine ⟨fun vs x hR hF K hK => ?_, ?_⟩
      · have f5 := hF 0 _ _ rfl rfl; have hc := HC.out x hR; clear hF
        go_simp
        exact hK _ _ (Grow.refl _) rfl
      refine Plan.det 8 rfl (Grow.refl) ?_
      apply Exists.intro
      refine ⟨fun vs x hR hF K hK => ?_, ?_⟩
      · have f4 := hF 2 _ _ rfl rfl; have f6 := hF 0 _ _ rfl rfl; clear hF
        go_simp
        exact hK _ _ (Grow.refl _) rfl
      refine Plan.det 9 rfl (Grow.refl) ?_
      apply Exists.intro
      refine ⟨fun vs x hR hF K hK => ?_, ?_⟩
      · have f7 := hF 0 _ _ rfl rfl; have hc := HC.out x hR; clear hF
        go_simp
        exact hK _ _ (Grow.refl _) rfl
      refine Plan.rel 10 rfl (Grow.refl) (fun v x => ∃ b, v = .pointer (some ⟨b, 0, none⟩) ∧ y1.heap.size ≤ b ∧ Row x b [.int .i64 0, .int .u64 0, .int .u64 0, .int .u64 0, .int .u64 0, .int .i64 0, .int .i64 0] 87) (fun v x y hR ⟨b, h1, h2, h3⟩ => ⟨b, h1, h2, h3.below hR h3.lt⟩) (fun vs x hR hF K hK => ?_) ?_
      · skip
        go_simp
        exact hK _ _ (Grow.alloc _ _) ⟨_, rfl, (by have := Grow.size hR; simp at this; omega), Row.at _ _ _⟩
      refine Plan.nil (fun vs x hR hF => ?_)
      have f0 := hF 9 _ _ rfl; have f1 := hF 8 _ _ rfl; have f2 := hF 7 _ _ rfl; have f3 := hF 6 _ _ rfl; have f4 := hF 5 _ _ rfl; have f5 := hF 4 _ _ rfl; have f6 := hF 3 _ _ rfl; have f7 := hF 2 _ _ rfl; have f8 := hF 1 _ _ rfl; have f9 := hF 0 _ _ rfl
      clear hF
      simp only [f0, f1, f2, f3, f4, f5, f6, f7, f8]
      clear f0 f1 f2 f3 f4 f5 f6 f7 f8
      simp only [List.drop_succ_cons, List.drop_zero]
      obtain ⟨b9, e9, hb9, hrow9⟩ := f9
      simp only [e9]
      have HROW9 := hid hrow9
      have q9 := row7 hrow9
      have hz9 := hrow9.lt
      have hf9 := hrow9.free
      have HBEL : Hid (Below y1.heap.size y1 (((((((x.setCell ⟨b9, 0, none⟩ (.int .i64 fop)).setCell ⟨b9, 1, none⟩ (.int .u64 fset.a)).setCell ⟨b9, 2, none⟩ (.int .u64 fset.b)).setCell ⟨b9, 3, none⟩ (.int .u64 fset.c)).setCell ⟨b9, 4, none⟩ (.int .u64 fset.d)).setCell ⟨b9, 5, none⟩ (.int .i64 fx)).setCell ⟨b9, 6, none⟩ (.int .i64 fy))) := ((((((((show Below y1.heap.size y1 x from ⟨hR.os, hR.tape, hR.output, hR.size, hR.block⟩).setCell (p := ⟨b9, 0, none⟩) hb9 (.int .i64 fop)).setCell (p := ⟨b9, 1, none⟩) hb9 (.int .u64 fset.a)).setCell (p := ⟨b9, 2, none⟩) hb9 (.int .u64 fset.b)).setCell (p := ⟨b9, 3, none⟩) hb9 (.int .u64 fset.c)).setCell (p := ⟨b9, 4, none⟩) hb9 (.int .u64 fset.d)).setCell (p := ⟨b9, 5, none⟩) hb9 (.int .i64 fx)).setCell (p := ⟨b9, 6, none⟩) hb9 (.int .i64 fy))
      have HRS : Hid (Row (((((((x.setCell ⟨b9, 0, none⟩ (.int .i64 fop)).setCell ⟨b9, 1, none⟩ (.int .u64 fset.a)).setCell ⟨b9, 2, none⟩ (.int .u64 fset.b)).setCell ⟨b9, 3, none⟩ (.int .u64 fset.c)).setCell ⟨b9, 4, none⟩ (.int .u64 fset.d)).setCell ⟨b9, 5, none⟩ (.int .i64 fx)).setCell ⟨b9, 6, none⟩ (.int .i64 fy)) b9 [.int .i64 fop, .int .u64 fset.a, .int .u64 fset.b, .int .u64 fset.c, .int .u64 fset.d, .int .i64 fx, .int .i64 fy] 87) := (((((((HROW9.out.set 0 (.int .i64 fop)).set 1 (.int .u64 fset.a)).set 2 (.int .u64 fset.b)).set 3 (.int .u64 fset.c)).set 4 (.int .u64 fset.d)).set 5 (.int .i64 fx)).set 6 (.int .i64 fy))
      clear hR HC hrow9 e9
      go_upto_region 7 with fail
      generalize (((((((x.setCell ⟨b9, 0, none⟩ (.int .i64 fop)).setCell ⟨b9, 1, none⟩ (.int .u64 fset.a)).setCell ⟨b9, 2, none⟩ (.int .u64 fset.b)).setCell ⟨b9, 3, none⟩ (.int .u64 fset.c)).setCell ⟨b9, 4, none⟩ (.int .u64 fset.d)).setCell ⟨b9, 5, none⟩ (.int .i64 fx)).setCell ⟨b9, 6, none⟩ (.int .i64 fy)) = z at *
      have HR2 := hid (HR1.out.more HBEL.out)
      have HBT2 := hid (HBT.out.below HBEL.out HBT.out.lt)
      have HBU2 := hid (HBU1.out.later (S' := []) (But.of_below HBEL.out) (fun i hi => by cases hi))
      clear q9 hz9 hf9 HROW9 HBEL HR1 HBT HBU1 hb9 HF2
      have hiI : (i : Int) < (str.size : Int) := by omega
      have hbyte := byte_eq HE.out.s hi
      have HC := hid (fun (x : World) (hx : Grow z.drew x) => And.intro (show x.cell? ⟨M, 2, none⟩ = some (.string str) from (HR2.out.more (show Below z.heap.size z x from ⟨hx.os, hx.tape, hx.output, hx.size, hx.block⟩)).sim.cells.2.2.1) (And.intro (show x.cell? ⟨bt, 0, none⟩ = some (.int .i64 k) ∧ x.cell? ⟨bt, 1, none⟩ = some (.int .i64 fr) from ⟨(HBT2.out.below (show Below z.heap.size z x from ⟨hx.os, hx.tape, hx.output, hx.size, hx.block⟩) HBT2.out.lt).cell 0, (HBT2.out.below (show Below z.heap.size z x from ⟨hx.os, hx.tape, hx.output, hx.size, hx.block⟩) HBT2.out.lt).cell 1⟩) (row7 (HRS.out.below (show Below z.heap.size z x from ⟨hx.os, hx.tape, hx.output, hx.size, hx.block⟩) HRS.out.lt))))
      have HBX := hid (fun (x : World) (hx : Grow z.drew x) => HBU2.out.later (S' := []) (But.of_below (show Below z.heap.size z x from ⟨hx.os, hx.tape, hx.output, hx.size, hx.block⟩)) (fun i hi => by cases hi))
      rw [hbyte] at HGO
      by_cases hop : fop = 1
      case neg =>
        have d1 : (fop == 1) = false := by simpa using hop
        have hgo : goes m i (k, fr) = false := by rw [HGO.out]; simp [hop]
        refine wp_region_inv 19 (Grow) (by kernel_rfl) (by kernel_rfl) (Grow.refl) (fun _ _ _ => Grow.trans) ?_
        simp only [fill, dstOf, Act.put, List.take_succ_cons, List.take_zero, List.getElem?_toArray, List.getElem?_cons_zero, List.getElem?_cons_succ, Option.bind_some, List.setIfInBounds_toArray, List.set_cons_zero, List.set_cons_succ]
        refine Plan.det 1 rfl (Grow.refl) ?_
        apply Exists.intro
        refine ⟨fun vs x hR hF K hK => ?_, ?_⟩
        · clear hF
          go_simp
          exact hK _ _ (Grow.refl _) rfl
        refine Plan.det 2 rfl (Grow.refl) ?_
        apply Exists.intro
        refine ⟨fun vs x hR hF K hK => ?_, ?_⟩
        · have f0 := hF 0 _ _ rfl rfl; have hc := HC.out x hR; clear hF
          go_simp
          exact hK _ _ (Grow.refl _) rfl
        refine Plan.det 3 rfl (Grow.refl) ?_
        apply Exists.intro
        refine ⟨fun vs x hR hF K hK => ?_, ?_⟩
        · have f1 := hF 0 _ _ rfl rfl; clear hF
          go_simp
          exact hK _ _ (Grow.refl _) rfl
        refine Plan.det 4 rfl (Grow.refl) ?_
        apply Exists.intro
        refine ⟨fun vs x hR hF K hK => ?_, ?_⟩
        · have f2 := hF 0 _ _ rfl rfl; clear hF
          go_simp
          exact hK _ _ (Grow.refl _) rfl
        refine Plan.det 5 rfl (Grow.refl) ?_
        apply Exists.intro
        refine ⟨fun vs x hR hF K hK => ?_, ?_⟩
        · have f3 := hF 0 _ _ rfl rfl; clear hF
          go_simp
          exact hK _ _ (Grow.refl _) rfl
        refine Plan.det 6 rfl (Grow.refl) ?_
        apply Exists.intro
        refine ⟨fun vs x hR hF K hK => ?_, ?_⟩
        · have f3 := hF 1 _ _ rfl rfl; have hc := HC.out x hR; clear hF
          go_simp
          exact hK _ _ (Grow.refl _) rfl
        refine Plan.det 7 rfl (Grow.refl) ?_
        apply Exists.intro
        refine ⟨fun vs x hR hF K hK => ?_, ?_⟩
        · have f3 := hF 2 _ _ rfl rfl; have f4 := hF 1 _ _ rfl rfl; have f5 := hF 0 _ _ rfl rfl; clear hF
          go_simp
          exact hK _ _ (Grow.refl _) rfl
        refine Plan.det 8 rfl (Grow.refl) ?_
        apply Exists.intro
        refine ⟨fun vs x hR hF K hK => ?_, ?_⟩
        · have f3 := hF 3 _ _ rfl rfl; have f6 := hF 0 _ _ rfl rfl; clear hF
          go_simp
          exact hK _ _ (Grow.refl _) rfl
        refine Plan.det 9 rfl (Grow.refl) ?_
        apply Exists.intro
        refine ⟨fun vs x hR hF K hK => ?_, ?_⟩
        · have f6 := hF 1 _ _ rfl rfl; have f7 := hF 0 _ _ rfl rfl; clear hF
          go_simp
          exact hK _ _ (Grow.refl _) rfl
        refine Plan.det 10 rfl (Grow.refl) ?_
        apply Exists.intro
        refine ⟨fun vs x hR hF K hK => ?_, ?_⟩
        · have f8 := hF 0 _ _ rfl rfl; clear hF
          go_simp
          exact hK _ _ (Grow.refl _) rfl
        refine Plan.det 11 rfl (Grow.refl) ?_
        apply Exists.intro
        refine ⟨fun vs x hR hF K hK => ?_, ?_⟩
        · have f8 := hF 1 _ _ rfl rfl; have f9 := hF 0 _ _ rfl rfl; have hc := HC.out x hR; clear hF
          go_simp
          exact hK _ _ (Grow.refl _) rfl
        refine Plan.det 12 rfl (Grow.refl) ?_
        apply Exists.intro
        refine ⟨fun vs x hR hF K hK => ?_, ?_⟩
        · have f8 := hF 2 _ _ rfl rfl; clear hF
          go_simp
          exact hK _ _ (Grow.refl _) rfl
        refine Plan.det 13 rfl (Grow.refl) ?_
        apply Exists.intro
        refine ⟨fun vs x hR hF K hK => ?_, ?_⟩
        · have f8 := hF 3 _ _ rfl rfl; have f11 := hF 0 _ _ rfl rfl; clear hF
          go_simp
          exact hK _ _ (Grow.refl _) rfl
        refine Plan.det 14 rfl (Grow.refl) ?_
        apply Exists.intro
        refine ⟨fun vs x hR hF K hK => ?_, ?_⟩
        · have f8 := hF 4 _ _ rfl rfl; have f12 := hF 0 _ _ rfl rfl; clear hF
          go_simp
          exact hK _ _ (Grow.refl _) rfl
        refine Plan.det 15 rfl (Grow.refl) ?_
        apply Exists.intro
        refine ⟨fun vs x hR hF K hK => ?_, ?_⟩
        · have f8 := hF 5 _ _ rfl rfl; have f13 := hF 0 _ _ rfl rfl; have hc := HC.out x hR; clear hF
          go_simp
          exact hK _ _ (Grow.refl _) rfl
        refine Plan.det 16 rfl (Grow.refl) ?_
        apply Exists.intro
        refine ⟨fun vs x hR hF K hK => ?_, ?_⟩
        · have f8 := hF 6 _ _ rfl rfl; clear hF
          go_simp
          exact hK _ _ (Grow.refl _) rfl
        refine Plan.det 17 rfl (Grow.refl) ?_
        apply Exists.intro
        refine ⟨fun vs x hR hF K hK => ?_, ?_⟩
        · have f8 := hF 7 _ _ rfl rfl; have f14 := hF 1 _ _ rfl rfl; have f15 := hF 0 _ _ rfl rfl; clear hF
          go_simp
          exact hK _ _ (Grow.refl _) rfl
        refine Plan.det 18 rfl (Grow.refl) ?_
        apply Exists.intro
        refine ⟨fun vs x hR hF K hK => ?_, ?_⟩
        · have f8 := hF 8 _ _ rfl rfl; have f10 := hF 6 _ _ rfl rfl; have f16 := hF 0 _ _ rfl rfl; clear hF
          go_simp
          exact hK _ _ (Grow.refl _) rfl
        refine Plan.det 19 rfl (Grow.refl) ?_
        apply Exists.intro
        refine ⟨fun vs x hR hF K hK => ?_, ?_⟩
        · have f8 := hF 9 _ _ rfl rfl; have f17 := hF 0 _ _ rfl rfl; clear hF
          go_simp
          exact hK _ _ (Grow.refl _) rfl
        refine Plan.nil (fun vs x hR hF => ?_)
        have f0 := hF 18 _ _ rfl; have f1 := hF 17 _ _ rfl; have f2 := hF 16 _ _ rfl; have f3 := hF 15 _ _ rfl; have f4 := hF 14 _ _ rfl; have f5 := hF 13 _ _ rfl; have f6 := hF 12 _ _ rfl; have f7 := hF 11 _ _ rfl; have f8 := hF 10 _ _ rfl; have f9 := hF 9 _ _ rfl; have f10 := hF 8 _ _ rfl; have f11 := hF 7 _ _ rfl; have f12 := hF 6 _ _ rfl; have f13 := hF 5 _ _ rfl; have f14 := hF 4 _ _ rfl; have f15 := hF 3 _ _ rfl; have f16 := hF 2 _ _ rfl; have f17 := hF 1 _ _ rfl; have f18 := hF 0 _ _ rfl
        clear hF
        simp only [f0, f1, f2, f3, f4, f5, f6, f7, f8, f9, f10, f11, f12, f13, f14, f15, f16, f17, f18]
        clear f0 f1 f2 f3 f4 f5 f6 f7 f8 f9 f10 f11 f12 f13 f14 f15 f16 f17 f18
        simp only [List.drop_succ_cons, List.drop_zero]
        have HR3 := hid (HR2.out.more (show Below z.heap.size z x from ⟨hR.os, hR.tape, hR.output, hR.size, hR.block⟩))
        have HSE := hid (HSN.out (.inl hgo))
        clear HC hR
        go_wp2_with fail
        case roundEnd =>
          refine ⟨⟨q + 1, mk', sv', St', la, lc, ln, out, hlt, rfl, rfl, HR3.out, ?_, ?_, HM.out, HC0.out, hun⟩, ?_⟩
          · rw [HSE.out]; exact HO.out
          · rw [HSE.out]; exact HV.out
          · show T.length - ((q : Int) + 1).toNat < T.length - (q : Int).toNat
            omega
      subst hop
      have HGO2 : Hid (goes m i (k, fr) = fset.has (str[i]).toNat) := by show _ = _; rw [HGO.out]; simp
      rcases Bool.eq_false_or_eq_true (kp (k, fr)) with hkp | hkp
      case inr =>
        have HK1 := hid (fun (w' : World) (hb : But (M :: ob sv) w w') => by have h1 := HKK.out w' (k, fr) hb; rw [hkp] at h1; exact h1)
        refine wp_region_inv 19 (Grow) (by kernel_rfl) (by kernel_rfl) (Grow.refl) (fun _ _ _ => Grow.trans) ?_
        simp only [fill, dstOf, Act.put, List.take_succ_cons, List.take_zero, List.getElem?_toArray, List.getElem?_cons_zero, List.getElem?_cons_succ, Option.bind_some, List.setIfInBounds_toArray, List.set_cons_zero, List.set_cons_succ]
        refine Plan.det 1 rfl (Grow.refl) ?_
        apply Exists.intro
        refine ⟨fun vs x hR hF K hK => ?_, ?_⟩
        · clear hF
          go_simp
          exact hK _ _ (Grow.refl _) rfl
        refine Plan.det 2 rfl (Grow.refl) ?_
        apply Exists.intro
        refine ⟨fun vs x hR hF K hK => ?_, ?_⟩
        · have f0 := hF 0 _ _ rfl rfl; have hc := HC.out x hR; clear hF
          go_simp
          exact hK _ _ (Grow.refl _) rfl
        refine Plan.det 3 rfl (Grow.refl) ?_
        apply Exists.intro
        refine ⟨fun vs x hR hF K hK => ?_, ?_⟩
        · have f1 := hF 0 _ _ rfl rfl; clear hF
          go_simp
          exact hK _ _ (Grow.refl _) rfl
        refine Plan.det 4 rfl (Grow.refl) ?_
        apply Exists.intro
        refine ⟨fun vs x hR hF K hK => ?_, ?_⟩
        · have f2 := hF 0 _ _ rfl rfl; clear hF
          go_simp
          exact hK _ _ (Grow.refl _) rfl
        refine Plan.det 5 rfl (Grow.refl) ?_
        apply Exists.intro
        refine ⟨fun vs x hR hF K hK => ?_, ?_⟩
        · have f3 := hF 0 _ _ rfl rfl; clear hF
          go_simp
          exact hK _ _ (Grow.refl _) rfl
        refine Plan.det 6 rfl (Grow.refl) ?_
        apply Exists.intro
        refine ⟨fun vs x hR hF K hK => ?_, ?_⟩
        · have f3 := hF 1 _ _ rfl rfl; have hc := HC.out x hR; clear hF
          go_simp
          exact hK _ _ (Grow.refl _) rfl
        refine Plan.det 7 rfl (Grow.refl) ?_
        apply Exists.intro
        refine ⟨fun vs x hR hF K hK => ?_, ?_⟩
        · have f3 := hF 2 _ _ rfl rfl; have f4 := hF 1 _ _ rfl rfl; have f5 := hF 0 _ _ rfl rfl; clear hF
          go_simp
          refine (HK1.out x (HBX.out x hR)).mono ?_
          rintro e x1 ⟨rfl, hbe⟩
          exact ⟨_, rfl, hK _ _ hbe rfl⟩
        refine Plan.det 8 rfl (Grow.refl) ?_
        apply Exists.intro
        refine ⟨fun vs x hR hF K hK => ?_, ?_⟩
        · have f3 := hF 3 _ _ rfl rfl; have f6 := hF 0 _ _ rfl rfl; clear hF
          go_simp
          exact hK _ _ (Grow.refl _) rfl
        refine Plan.det 9 rfl (Grow.refl) ?_
        apply Exists.intro
        refine ⟨fun vs x hR hF K hK => ?_, ?_⟩
        · have f6 := hF 1 _ _ rfl rfl; have f7 := hF 0 _ _ rfl rfl; clear hF
          go_simp
          exact hK _ _ (Grow.refl _) rfl
        refine Plan.det 10 rfl (Grow.refl) ?_
        apply Exists.intro
        refine ⟨fun vs x hR hF K hK => ?_, ?_⟩
        · have f8 := hF 0 _ _ rfl rfl; clear hF
          go_simp
          exact hK _ _ (Grow.refl _) rfl
        refine Plan.det 11 rfl (Grow.refl) ?_
        apply Exists.intro
        refine ⟨fun vs x hR hF K hK => ?_, ?_⟩
        · have f8 := hF 1 _ _ rfl rfl; have f9 := hF 0 _ _ rfl rfl; have hc := HC.out x hR; clear hF
          go_simp
          exact hK _ _ (Grow.refl _) rfl
        refine Plan.det 12 rfl (Grow.refl) ?_
        apply Exists.intro
        refine ⟨fun vs x hR hF K hK => ?_, ?_⟩
        · have f8 := hF 2 _ _ rfl rfl; clear hF
          go_simp
          exact hK _ _ (Grow.refl _) rfl
        refine Plan.det 13 rfl (Grow.refl) ?_
        apply Exists.intro
        refine ⟨fun vs x hR hF K hK => ?_, ?_⟩
        · have f8 := hF 3 _ _ rfl rfl; have f11 := hF 0 _ _ rfl rfl; clear hF
          go_simp
          exact hK _ _ (Grow.refl _) rfl
        refine Plan.det 14 rfl (Grow.refl) ?_
        apply Exists.intro
        refine ⟨fun vs x hR hF K hK => ?_, ?_⟩
        · have f8 := hF 4 _ _ rfl rfl; have f12 := hF 0 _ _ rfl rfl; clear hF
          go_simp
          exact hK _ _ (Grow.refl _) rfl
        refine Plan.det 15 rfl (Grow.refl) ?_
        apply Exists.intro
        refine ⟨fun vs x hR hF K hK => ?_, ?_⟩
        · have f8 := hF 5 _ _ rfl rfl; have f13 := hF 0 _ _ rfl rfl; have hc := HC.out x hR; clear hF
          go_simp
          exact hK _ _ (Grow.refl _) rfl
        refine Plan.det 16 rfl (Grow.refl) ?_
        apply Exists.intro
        refine ⟨fun vs x hR hF K hK => ?_, ?_⟩
        · have f8 := hF 6 _ _ rfl rfl; clear hF
          go_simp
          exact hK _ _ (Grow.refl _) rfl
        refine Plan.det 17 rfl (Grow.refl) ?_
        apply Exists.intro
        refine ⟨fun vs x hR hF K hK => ?_, ?_⟩
        · have f8 := hF 7 _ _ rfl rfl; have f14 := hF 1 _ _ rfl rfl; have f15 := hF 0 _ _ rfl rfl; clear hF
          go_simp
          exact hK _ _ (Grow.refl _) rfl
        refine Plan.det 18 rfl (Grow.refl) ?_
        apply Exists.intro
        refine ⟨fun vs x hR hF K hK => ?_, ?_⟩
        · have f8 := hF 8 _ _ rfl rfl; have f10 := hF 6 _ _ rfl rfl; have f16 := hF 0 _ _ rfl rfl; clear hF
          go_simp
          exact hK _ _ (Grow.refl _) rfl
        refine Plan.det 19 rfl (Grow.refl) ?_
        apply Exists.intro
        refine ⟨fun vs x hR hF K hK => ?_, ?_⟩
        · have f8 := hF 9 _ _ rfl rfl; have f17 := hF 0 _ _ rfl rfl; clear hF
          go_simp
          exact hK _ _ (Grow.refl _) rfl
        refine Plan.nil (fun vs x hR hF => ?_)
        have f0 := hF 18 _ _ rfl; have f1 := hF 17 _ _ rfl; have f2 := hF 16 _ _ rfl; have f3 := hF 15 _ _ rfl; have f4 := hF 14 _ _ rfl; have f5 := hF 13 _ _ rfl; have f6 := hF 12 _ _ rfl; have f7 := hF 11 _ _ rfl; have f8 := hF 10 _ _ rfl; have f9 := hF 9 _ _ rfl; have f10 := hF 8 _ _ rfl; have f11 := hF 7 _ _ rfl; have f12 := hF 6 _ _ rfl; have f13 := hF 5 _ _ rfl; have f14 := hF 4 _ _ rfl; have f15 := hF 3 _ _ rfl; have f16 := hF 2 _ _ rfl; have f17 := hF 1 _ _ rfl; have f18 := hF 0 _ _ rfl
        clear hF
        simp only [f0, f1, f2, f3, f4, f5, f6, f7, f8, f9, f10, f11, f12, f13, f14, f15, f16, f17, f18]
        clear f0 f1 f2 f3 f4 f5 f6 f7 f8 f9 f10 f11 f12 f13 f14 f15 f16 f17 f18
        simp only [List.drop_succ_cons, List.drop_zero]
        have HR3 := hid (HR2.out.more (show Below z.heap.size z x from ⟨hR.os, hR.tape, hR.output, hR.size, hR.block⟩))
        have HSE := hid (HSN.out (.inr hkp))
        clear HC hR
        go_wp2_with fail
        case roundEnd =>
          refine ⟨⟨q + 1, mk', sv', St', la, lc, ln, out, hlt, rfl, rfl, HR3.out, ?_, ?_, HM.out, HC0.out, hun⟩, ?_⟩
          · rw [HSE.out]; exact HO.out
          · rw [HSE.out]; exact HV.out
          · show T.length - ((q : Int) + 1).toNat < T.length - (q : Int).toNat
            omega
      have HK1 := hid (fun (w' : World) (hb : But (M :: ob sv) w w') => by have h1 := HKK.out w' (k, fr) hb; rw [hkp] at h1; exact h1)
      have HH := hid (fun (x : World) => Has2_any fset (str[i]).toNat x HWF.out (UInt8.toNat_lt _))
      rcases Bool.eq_false_or_eq_true (fset.has (str[i]).toNat) with hhs | hhs
      case inr =>
        rw [hhs] at HH
        have hgo : goes m i (k, fr) = false := by rw [HGO2.out]; exact hhs
        refine wp_region_inv 19 (Grow) (by kernel_rfl) (by kernel_rfl) (Grow.refl) (fun _ _ _ => Grow.trans) ?_
        simp only [fill, dstOf, Act.put, List.take_succ_cons, List.take_zero, List.getElem?_toArray, List.getElem?_cons_zero, List.getElem?_cons_succ, Option.bind_some, List.setIfInBounds_toArray, List.set_cons_zero, List.set_cons_succ]
        refine Plan.det 1 rfl (Grow.refl) ?_
        apply Exists.intro
        refine ⟨fun vs x hR hF K hK => ?_, ?_⟩
        · clear hF
          go_simp
          exact hK _ _ (Grow.refl _) rfl
        refine Plan.det 2 rfl (Grow.refl) ?_
        apply Exists.intro
        refine ⟨fun vs x hR hF K hK => ?_, ?_⟩
        · have f0 := hF 0 _ _ rfl rfl; have hc := HC.out x hR; clear hF
          go_simp
          exact hK _ _ (Grow.refl _) rfl
        refine Plan.det 3 rfl (Grow.refl) ?_
        apply Exists.intro
        refine ⟨fun vs x hR hF K hK => ?_, ?_⟩
        · have f1 := hF 0 _ _ rfl rfl; clear hF
          go_simp
          exact hK _ _ (Grow.refl _) rfl
        refine Plan.det 4 rfl (Grow.refl) ?_
        apply Exists.intro
        refine ⟨fun vs x hR hF K hK => ?_, ?_⟩
        · have f2 := hF 0 _ _ rfl rfl; clear hF
          go_simp
          exact hK _ _ (Grow.refl _) rfl
        refine Plan.det 5 rfl (Grow.refl) ?_
        apply Exists.intro
        refine ⟨fun vs x hR hF K hK => ?_, ?_⟩
        · have f3 := hF 0 _ _ rfl rfl; clear hF
          go_simp
          exact hK _ _ (Grow.refl _) rfl
        refine Plan.det 6 rfl (Grow.refl) ?_
        apply Exists.intro
        refine ⟨fun vs x hR hF K hK => ?_, ?_⟩
        · have f3 := hF 1 _ _ rfl rfl; have hc := HC.out x hR; clear hF
          go_simp
          exact hK _ _ (Grow.refl _) rfl
        refine Plan.det 7 rfl (Grow.refl) ?_
        apply Exists.intro
        refine ⟨fun vs x hR hF K hK => ?_, ?_⟩
        · have f3 := hF 2 _ _ rfl rfl; have f4 := hF 1 _ _ rfl rfl; have f5 := hF 0 _ _ rfl rfl; clear hF
          go_simp
          refine (HK1.out x (HBX.out x hR)).mono ?_
          rintro e x1 ⟨rfl, hbe⟩
          exact ⟨_, rfl, hK _ _ hbe rfl⟩
        refine Plan.det 8 rfl (Grow.refl) ?_
        apply Exists.intro
        refine ⟨fun vs x hR hF K hK => ?_, ?_⟩
        · have f3 := hF 3 _ _ rfl rfl; have f6 := hF 0 _ _ rfl rfl; clear hF
          go_simp
          exact hK _ _ (Grow.refl _) rfl
        refine Plan.det 9 rfl (Grow.refl) ?_
        apply Exists.intro
        refine ⟨fun vs x hR hF K hK => ?_, ?_⟩
        · have f6 := hF 1 _ _ rfl rfl; have f7 := hF 0 _ _ rfl rfl; clear hF
          go_simp
          exact hK _ _ (Grow.refl _) rfl
        refine Plan.det 10 rfl (Grow.refl) ?_
        apply Exists.intro
        refine ⟨fun vs x hR hF K hK => ?_, ?_⟩
        · have f8 := hF 0 _ _ rfl rfl; clear hF
          go_simp
          exact hK _ _ (Grow.refl _) rfl
        refine Plan.det 11 rfl (Grow.refl) ?_
        apply Exists.intro
        refine ⟨fun vs x hR hF K hK => ?_, ?_⟩
        · have f8 := hF 1 _ _ rfl rfl; have f9 := hF 0 _ _ rfl rfl; have hc := HC.out x hR; clear hF
          go_simp
          exact hK _ _ (Grow.refl _) rfl
        refine Plan.det 12 rfl (Grow.refl) ?_
        apply Exists.intro
        refine ⟨fun vs x hR hF K hK => ?_, ?_⟩
        · have f8 := hF 2 _ _ rfl rfl; clear hF
          go_simp
          exact hK _ _ (Grow.refl _) rfl
        refine Plan.det 13 rfl (Grow.refl) ?_
        apply Exists.intro
        refine ⟨fun vs x hR hF K hK => ?_, ?_⟩
        · have f8 := hF 3 _ _ rfl rfl; have f11 := hF 0 _ _ rfl rfl; clear hF
          go_simp
          exact hK _ _ (Grow.refl _) rfl
        refine Plan.det 14 rfl (Grow.refl) ?_
        apply Exists.intro
        refine ⟨fun vs x hR hF K hK => ?_, ?_⟩
        · have f8 := hF 4 _ _ rfl rfl; have f12 := hF 0 _ _ rfl rfl; clear hF
          go_simp
          exact hK _ _ (Grow.refl _) rfl
        refine Plan.det 15 rfl (Grow.refl) ?_
        apply Exists.intro
        refine ⟨fun vs x hR hF K hK => ?_, ?_⟩
        · have f8 := hF 5 _ _ rfl rfl; have f13 := hF 0 _ _ rfl rfl; have hc := HC.out x hR; clear hF
          go_simp
          exact hK _ _ (Grow.refl _) rfl
        refine Plan.det 16 rfl (Grow.refl) ?_
        apply Exists.intro
        refine ⟨fun vs x hR hF K hK => ?_, ?_⟩
        · have f8 := hF 6 _ _ rfl rfl; clear hF
          go_simp
          exact hK _ _ (Grow.refl _) rfl
        refine Plan.det 17 rfl (Grow.refl) ?_
        apply Exists.intro
        refine ⟨fun vs x hR hF K hK => ?_, ?_⟩
        · have f8 := hF 7 _ _ rfl rfl; have f14 := hF 1 _ _ rfl rfl; have f15 := hF 0 _ _ rfl rfl; clear hF
          go_simp
          exact hK _ _ (Grow.refl _) rfl
        refine Plan.det 18 rfl (Grow.refl) ?_
        apply Exists.intro
        refine ⟨fun vs x hR hF K hK => ?_, ?_⟩
        · have f8 := hF 8 _ _ rfl rfl; have f10 := hF 6 _ _ rfl rfl; have f16 := hF 0 _ _ rfl rfl; clear hF
          go_simp
          refine (HH.out x).mono ?_
          rintro e x1 ⟨rfl, hbe⟩
          exact ⟨_, rfl, hK _ _ hbe rfl⟩
        refine Plan.det 19 rfl (Grow.refl) ?_
        apply Exists.intro
        refine ⟨fun vs x hR hF K hK => ?_, ?_⟩
        · have f8 := hF 9 _ _ rfl rfl; have f17 := hF 0 _ _ rfl rfl; clear hF
          go_simp
          exact hK _ _ (Grow.refl _) rfl
        refine Plan.nil (fun vs x hR hF => ?_)
        have f0 := hF 18 _ _ rfl; have f1 := hF 17 _ _ rfl; have f2 := hF 16 _ _ rfl; have f3 := hF 15 _ _ rfl; have f4 := hF 14 _ _ rfl; have f5 := hF 13 _ _ rfl; have f6 := hF 12 _ _ rfl; have f7 := hF 11 _ _ rfl; have f8 := hF 10 _ _ rfl; have f9 := hF 9 _ _ rfl; have f10 := hF 8 _ _ rfl; have f11 := hF 7 _ _ rfl; have f12 := hF 6 _ _ rfl; have f13 := hF 5 _ _ rfl; have f14 := hF 4 _ _ rfl; have f15 := hF 3 _ _ rfl; have f16 := hF 2 _ _ rfl; have f17 := hF 1 _ _ rfl; have f18 := hF 0 _ _ rfl
        clear hF
        simp only [f0, f1, f2, f3, f4, f5, f6, f7, f8, f9, f10, f11, f12, f13, f14, f15, f16, f17, f18]
        clear f0 f1 f2 f3 f4 f5 f6 f7 f8 f9 f10 f11 f12 f13 f14 f15 f16 f17 f18
        simp only [List.drop_succ_cons, List.drop_zero]
        have HR3 := hid (HR2.out.more (show Below z.heap.size z x from ⟨hR.os, hR.tape, hR.output, hR.size, hR.block⟩))
        have HSE := hid (HSN.out (.inl hgo))
        clear HC hR
        go_wp2_with fail
        case roundEnd =>
          refine ⟨⟨q + 1, mk', sv', St', la, lc, ln, out, hlt, rfl, rfl, HR3.out, ?_, ?_, HM.out, HC0.out, hun⟩, ?_⟩
          · rw [HSE.out]; exact HO.out
          · rw [HSE.out]; exact HV.out
          · show T.length - ((q : Int) + 1).toNat < T.length - (q : Int).toNat
            omega
      rw [hhs] at HH
      have hgo : goes m i (k, fr) = true := by rw [HGO2.out]; exact hhs
      refine wp_region_inv 19 (Grow) (by kernel_rfl) (by kernel_rfl) (Grow.refl) (fun _ _ _ => Grow.trans) ?_
      simp only [fill, dstOf, Act.put, List.take_succ_cons, List.take_zero, List.getElem?_toArray, List.getElem?_cons_zero, List.getElem?_cons_succ, Option.bind_some, List.setIfInBounds_toArray, List.set_cons_zero, List.set_cons_succ]
      refine Plan.det 1 rfl (Grow.refl) ?_
      apply Exists.intro
      refine ⟨fun vs x hR hF K hK => ?_, ?_⟩
      · clear hF
        go_simp
        exact hK _ _ (Grow.refl _) rfl
      refine Plan.det 2 rfl (Grow.refl) ?_
      apply Exists.intro
      refine ⟨fun vs x hR hF K hK => ?_, ?_⟩
      · have f0 := hF 0 _ _ rfl rfl; have hc := HC.out x hR; clear hF
        go_simp
        exact hK _ _ (Grow.refl _) rfl
      refine Plan.det 3 rfl (Grow.refl) ?_
      apply Exists.intro
      refine ⟨fun vs x hR hF K hK => ?_, ?_⟩
      · have f1 := hF 0 _ _ rfl rfl; clear hF
        go_simp
        exact hK _ _ (Grow.refl _) rfl
      refine Plan.det 4 rfl (Grow.refl) ?_
      apply Exists.intro
      refine ⟨fun vs x hR hF K hK => ?_, ?_⟩
      · have f2 := hF 0 _ _ rfl rfl; clear hF
        go_simp
        exact hK _ _ (Grow.refl _) rfl
      refine Plan.det 5 rfl (Grow.refl) ?_
      apply Exists.intro
      refine ⟨fun vs x hR hF K hK => ?_, ?_⟩
      · have f3 := hF 0 _ _ rfl rfl; clear hF
        go_simp
        exact hK _ _ (Grow.refl _) rfl
      refine Plan.det 6 rfl (Grow.refl) ?_
      apply Exists.intro
      refine ⟨fun vs x hR hF K hK => ?_, ?_⟩
      · have f3 := hF 1 _ _ rfl rfl; have hc := HC.out x hR; clear hF
        go_simp
        exact hK _ _ (Grow.refl _) rfl
      refine Plan.det 7 rfl (Grow.refl) ?_
      apply Exists.intro
      refine ⟨fun vs x hR hF K hK => ?_, ?_⟩
      · have f3 := hF 2 _ _ rfl rfl; have f4 := hF 1 _ _ rfl rfl; have f5 := hF 0 _ _ rfl rfl; clear hF
        go_simp
        refine (HK1.out x (HBX.out x hR)).mono ?_
        rintro e x1 ⟨rfl, hbe⟩
        exact ⟨_, rfl, hK _ _ hbe rfl⟩
      refine Plan.det 8 rfl (Grow.refl) ?_
      apply Exists.intro
      refine ⟨fun vs x hR hF K hK => ?_, ?_⟩
      · have f3 := hF 3 _ _ rfl rfl; have f6 := hF 0 _ _ rfl rfl; clear hF
        go_simp
        exact hK _ _ (Grow.refl _) rfl
      refine Plan.det 9 rfl (Grow.refl) ?_
      apply Exists.intro
      refine ⟨fun vs x hR hF K hK => ?_, ?_⟩
      · have f6 := hF 1 _ _ rfl rfl; have f7 := hF 0 _ _ rfl rfl; clear hF
        go_simp
        exact hK _ _ (Grow.refl _) rfl
      refine Plan.det 10 rfl (Grow.refl) ?_
      apply Exists.intro
      refine ⟨fun vs x hR hF K hK => ?_, ?_⟩
      · have f8 := hF 0 _ _ rfl rfl; clear hF
        go_simp
        exact hK _ _ (Grow.refl _) rfl
      refine Plan.det 11 rfl (Grow.refl) ?_
      apply Exists.intro
      refine ⟨fun vs x hR hF K hK => ?_, ?_⟩
      · have f8 := hF 1 _ _ rfl rfl; have f9 := hF 0 _ _ rfl rfl; have hc := HC.out x hR; clear hF
        go_simp
        exact hK _ _ (Grow.refl _) rfl
      refine Plan.det 12 rfl (Grow.refl) ?_
      apply Exists.intro
      refine ⟨fun vs x hR hF K hK => ?_, ?_⟩
      · have f8 := hF 2 _ _ rfl rfl; clear hF
        go_simp
        exact hK _ _ (Grow.refl _) rfl
      refine Plan.det 13 rfl (Grow.refl) ?_
      apply Exists.intro
      refine ⟨fun vs x hR hF K hK => ?_, ?_⟩
      · have f8 := hF 3 _ _ rfl rfl; have f11 := hF 0 _ _ rfl rfl; clear hF
        go_simp
        exact hK _ _ (Grow.refl _) rfl
      refine Plan.det 14 rfl (Grow.refl) ?_
      apply Exists.intro
      refine ⟨fun vs x hR hF K hK => ?_, ?_⟩
      · have f8 := hF 4 _ _ rfl rfl; have f12 := hF 0 _ _ rfl rfl; clear hF
        go_simp
        exact hK _ _ (Grow.refl _) rfl
      refine Plan.det 15 rfl (Grow.refl) ?_
      apply Exists.intro
      refine ⟨fun vs x hR hF K hK => ?_, ?_⟩
      · have f8 := hF 5 _ _ rfl rfl; have f13 := hF 0 _ _ rfl rfl; have hc := HC.out x hR; clear hF
        go_simp
        exact hK _ _ (Grow.refl _) rfl
      refine Plan.det 16 rfl (Grow.refl) ?_
      apply Exists.intro
      refine ⟨fun vs x hR hF K hK => ?_, ?_⟩
      · have f8 := hF 6 _ _ rfl rfl; clear hF
        go_simp
        exact hK _ _ (Grow.refl _) rfl
      refine Plan.det 17 rfl (Grow.refl) ?_
      apply Exists.intro
      refine ⟨fun vs x hR hF K hK => ?_, ?_⟩
      · have f8 := hF 7 _ _ rfl rfl; have f14 := hF 1 _ _ rfl rfl; have f15 := hF 0 _ _ rfl rfl; clear hF
        go_simp
        exact hK _ _ (Grow.refl _) rfl
      refine Plan.det 18 rfl (Grow.refl) ?_
      apply Exists.intro
      refine ⟨fun vs x hR hF K hK => ?_, ?_⟩
      · have f8 := hF 8 _ _ rfl rfl; have f10 := hF 6 _ _ rfl rfl; have f16 := hF 0 _ _ rfl rfl; clear hF
        go_simp
        refine (HH.out x).mono ?_
        rintro e x1 ⟨rfl, hbe⟩
        exact ⟨_, rfl, hK _ _ hbe rfl⟩
      refine Plan.det 19 rfl (Grow.refl) ?_
      apply Exists.intro
      refine ⟨fun vs x hR hF K hK => ?_, ?_⟩
      · have f8 := hF 9 _ _ rfl rfl; have f17 := hF 0 _ _ rfl rfl; clear hF
        go_simp
        exact hK _ _ (Grow.refl _) rfl
      refine Plan.nil (fun vs x hR hF => ?_)
      have f0 := hF 18 _ _ rfl; have f1 := hF 17 _ _ rfl; have f2 := hF 16 _ _ rfl; have f3 := hF 15 _ _ rfl; have f4 := hF 14 _ _ rfl; have f5 := hF 13 _ _ rfl; have f6 := hF 12 _ _ rfl; have f7 := hF 11 _ _ rfl; have f8 := hF 10 _ _ rfl; have f9 := hF 9 _ _ rfl; have f10 := hF 8 _ _ rfl; have f11 := hF 7 _ _ rfl; have f12 := hF 6 _ _ rfl; have f13 := hF 5 _ _ rfl; have f14 := hF 4 _ _ rfl; have f15 := hF 3 _ _ rfl; have f16 := hF 2 _ _ rfl; have f17 := hF 1 _ _ rfl; have f18 := hF 0 _ _ rfl
      clear hF
      simp only [f0, f1, f2, f3, f4, f5, f6, f7, f8, f9, f10, f11, f12, f13, f14, f15, f16, f17, f18]
      clear f0 f1 f2 f3 f4 f5 f6 f7 f8 f9 f10 f11 f12 f13 f14 f15 f16 f17 f18
      simp only [List.drop_succ_cons, List.drop_zero]
      have hbz : Below z.heap.size z x := ⟨hR.os, hR.tape, hR.output, hR.size, hR.block⟩
      have HR3 := hid (HR2.out.more hbz)
      have hbt3 := HBT2.out.below hbz HBT2.out.lt
      have qt : x.cell? ⟨bt, 0, none⟩ = some (.int .i64 k) ∧ x.cell? ⟨bt, 1, none⟩ = some (.int .i64 fr) := ⟨hbt3.cell 0, hbt3.cell 1⟩
      have HSE := hid (HSY.out hgo hkp)
      have hk1 : k + 1 < m.L.length := by omega
      have hol : out.length ≤ 1000000 := by omega
      have hre := reach_any wb x m M _ c str (st + 1) sv' (.slice la ln lc) mk' St' out (k + 1) fr (i + 1) HE.out HR3.out.again hk1 (by omega) hfr hol HC0.out
      rw [show ((k + 1 : Nat) : Int) = (k : Int) + 1 by omega, show ((i + 1 : Nat) : Int) = (i : Int) + 1 by omega] at hre
      have HRE := hid hre
      clear hre
      clear HC hR hbz hbt3 HBX HK1 HH
      go_wp2_with fail
      refine HRE.out.mono ?_
      rintro e w5 ⟨mk5, sv5, lv5, news, rfl, hr5, hnd, hmem, hv5, ho5, hl5⟩
      obtain ⟨la5, n5, lc5, hlv5⟩ : ∃ a n c, lv5 = .slice a n c := by
        obtain ⟨a5, c5, h5⟩ := ownsRow_shape hr5.lst
        exact ⟨_, _, _, h5⟩
      subst hlv5
      have HR5 := hid (HR3.out.then hr5)
      have HO5 : Hid (Outs m (i + 1) (starts m i kp (T.take (q + 1))) (out ++ news.map fun k => (k, fr))) := by
        show Outs _ _ _ _
        rw [HSE.out]
        exact HO.out.add hnd fun k' => by rw [hmem k', Ne, HV.out k']
      have HV5 : Hid (∀ k, mk5 k = st + 1 ↔ ∃ s, s ∈ starts m i kp (T.take (q + 1)) ∧ m.Reach (i + 1) (· = s.1) k) := by
        intro k'
        rw [HSE.out, hv5 k', HV.out k']
        constructor
        · rintro (⟨s, hs, hr⟩ | hr)
          · exact ⟨s, by simp [hs], hr⟩
          · exact ⟨(k + 1, fr), by simp, hr⟩
        · rintro ⟨s, hs, hr⟩
          rcases List.mem_append.1 hs with hs | hs
          · exact .inl ⟨s, hs, hr⟩
          · obtain rfl : s = (k + 1, fr) := by simpa using hs
            exact .inr hr
      have HM5 : Hid (∀ k, mk5 k ≤ st + 1) := by
        intro k'
        have := HM.out k'
        rcases ho5 k' with h1 | h1 <;> omega
      have HC5 : Hid (∀ k, mk5 k = st + 1 → ∀ j, j ∈ m.eps (i + 1) k → mk5 j = st + 1) := by
        intro k' hk' j hj
        rw [hv5]
        rcases (hv5 k').1 hk' with h1 | h1
        · exact .inl (HC0.out k' h1 j hj)
        · exact .inr (.step h1 hj)
      clear hr5 hnd hmem hv5 ho5 HRE qt
      go_wp2_with fail
      case roundEnd =>
        refine ⟨⟨q + 1, mk5, sv5, [], la5, lc5, _, out ++ news.map fun k => (k, fr), hlt, rfl, rfl, HR5.out, HO5.out, HV5.out, HM5.out, HC5.out, ?_⟩, ?_⟩
        · rw [List.length_append, List.length_map]; omega
        · show T.length - ((q : Int) + 1).toNat < T.length - (q : Int).toNat
          omega
    · obtain rfl : q = T.length := by omega
      rw [List.take_length] at HO HV
      go_wp2_with fail
      all_goals
        (try go_ret)
        exact HPP.out mk' _ _ _ _ _ HR.out HO.out HV.out HM.out HC0.out hun

set_option maxRecDepth 100000 in
set_option maxHeartbeats 16000000 in
theorem next_keep_any (wb w : World) (m : Sim) (M : Nat) (a : Option Addr) (c : Nat) (str : ByteArray) (st : Int) (sv lv : Value) (mk : Nat → Int) (St0 : List Nat) (T : List (Nat × Nat)) (i : Nat) (fp bp : Nat) (kp : Nat × Nat → Bool) (env : Env wb m a str)
    (h : RchM wb w m M a c str st sv lv mk sv St0 lv T w) (hi : i < str.size) (hT : T.length ≤ 4096) (hTl : ∀ t, t ∈ T → t.1 < m.L.length ∧ t.2 ≤ 1000000) (hmk : ∀ k, mk k ≤ st) (hst : 0 ≤ st ∧ st ≤ 1000000)
    (HK : ∀ (w' : World) (t : Nat × Nat), But (M :: ob sv) w w' → Calls Try.prog 44 #[.agg #[.int .i64 t.1, .int .i64 t.2], .pointer (some ⟨fp, 0, none⟩), .pointer (some ⟨bp, 0, none⟩)] w' fun e w'' => e = .returned (.bool (kp t)) ∧ Below w'.heap.size w' w'') :
    Calls Try.prog 42 #[.pointer (some ⟨M, 0, none⟩), lv, .int .i64 i, .func (.func 44) #[] #[.pointer (some ⟨fp, 0, none⟩), .pointer (some ⟨bp, 0, none⟩)]] w (NxPost wb w m M a c str st sv T kp i) := by
  have HE := hid env
  have hn2 := env.right.1.2
  have hshort := env.short
  have HPP : Hid (∀ (mk' : Nat → Int) (sv' lv' : Value) (St' : List Nat) (out : List (Nat × Nat)) (w' : World), RchM wb w m M a c str (st + 1) sv (.slice none 0 0) mk' sv' St' lv' out w' → Outs m (i + 1) (starts m i kp T) out → (∀ k, mk' k = st + 1 ↔ ∃ s, s ∈ starts m i kp T ∧ m.Reach (i + 1) (· = s.1) k) → (∀ k, mk' k ≤ st + 1) → (∀ k, mk' k = st + 1 → ∀ j, j ∈ m.eps (i + 1) k → mk' j = st + 1) → out.length + unv mk' (st + 1) m.L.length ≤ m.L.length → NxPost wb w m M a c str st sv T kp i (.returned lv') w') := fun mk' sv' lv' St' out w' h1 h2 h3 h4 h5 h6 => ⟨mk', sv', lv', St', out, rfl, h1, h2, h3, h4, h5, h6⟩
  generalize NxPost wb w m M a c str st sv T kp i = PP at *
  obtain ⟨lad, lcap, hlv⟩ := ownsRow_shape h.lst
  subst hlv
  have q := h.sim.cells
  have hz := h.sim.lt
  have hfree := h.sim.free
  have HL := hid h.lst
  have HLM := hid h.lst_ne
  have HLS := hid (fun g hg => h.apart g hg)
  have hr0 : RchM wb w m M a c str st sv (.slice none 0 0) mk sv St0 (.slice none 0 0) [] w := ⟨h.sim, h.stk, World.ownsRow_nil _ _ _ _, h.lo, h.low, But.refl _ _, fun g hg => .inl hg, fun g hg => by simp [ob, Value.ownBlock] at hg⟩
  have HR0 := hid (hr0.step (st + 1))
  have HMK := hid hmk
  have HTL := hid hTl
  have HKK := hid HK
  have HTI : Hid (T.length ≤ 4096) := hT
  clear h hr0 hmk hTl HK env
  have hst1 := hst.1
  have hst2 := hst.2
  clear hst
  go_enter Try.func42, Try.ntmps42
  go_wp2_with fail
  generalize w.setCell ⟨M, 4099, none⟩ (.int .i64 (st + 1)) = w1 at *
  clear q hz hfree
  go_loopw [9, 22] (fun v ix wr => ∃ (q : Nat) (mk' : Nat → Int) (sv' : Value) (St' : List Nat) (la : Option Addr) (lc ln : Nat) (out : List (Nat × Nat)), q ≤ T.length ∧ v = .slice la ln lc ∧ ix = .int .i64 q ∧ Hid (RchM wb w m M a c str (st + 1) sv (.slice none 0 0) mk' sv' St' (.slice la ln lc) out wr) ∧
    Hid (Outs m (i + 1) (starts m i kp (T.take q)) out) ∧ Hid (∀ k, mk' k = st + 1 ↔ ∃ s, s ∈ starts m i kp (T.take q) ∧ m.Reach (i + 1) (· = s.1) k) ∧ Hid (∀ k, mk' k ≤ st + 1) ∧ Hid (∀ k, mk' k = st + 1 → ∀ j, j ∈ m.eps (i + 1) k → mk' j = st + 1) ∧ out.length + unv mk' (st + 1) m.L.length ≤ m.L.length) (fun _ ix _ => T.length - (intOf ix).toNat)
  case atStart =>
    refine ⟨0, mk, sv, St0, none, 0, 0, [], by omega, rfl, rfl, HR0.out, Outs.nil _ _, fun k => ⟨fun h => ?_, fun ⟨s, hs, _⟩ => by simp [starts] at hs⟩, fun k => ?_, fun k h => ?_, ?_⟩
    · have := HMK.out k; omega
    · have := HMK.out k; omega
    · have := HMK.out k; omega
    · have := unv_le mk (st + 1) m.L.length; simpa using this
  case round =>
    obtain ⟨q, mk', sv', St', la, lc, ln, out, hq, rfl, rfl, HR, HO, HV, HM, HC0, hun⟩ := hrel
    rcases Nat.lt_or_ge q T.length with hlt | hge
    · have hbu : But (M :: ob sv) w wr := HR.out.but.mono fun k hk => .inl (by simpa [ob, Value.ownBlock] using hk)
      have HBU := hid hbu
      have hlst : wr.ownsRow wb.heap.size 96 2 (.slice lad T.length lcap) T.length (T.flatMap tcells) := ownsRow_heap HL.out fun g hg => hbu.block g (HL.out.lt g hg).2 (fun hm => by
        rcases List.mem_cons.1 hm with rfl | hm
        · exact HLM.out _ hg rfl
        · exact HLS.out g (mem_ob.1 hm) hg)
      obtain ⟨tg, htg, htc⟩ : ∃ g, lad = some ⟨g, 0, none⟩ ∧ (wr.cell? ⟨g, q * 2, none⟩ = some (.int .i64 (T[q].1 : Nat)) ∧ wr.cell? ⟨g, q * 2 + 1, none⟩ = some (.int .i64 (T[q].2 : Nat))) := by
        obtain ⟨-, h2⟩ := id hlst
        rcases h2 with ⟨-, h2⟩ | ⟨g, cap, cur, hv, -⟩
        · omega
        · injection hv with e1
          subst e1
          refine ⟨g, rfl, ?_, ?_⟩
          · have h1 := World.ownsRow.cells hlst (g := g) rfl (q * 2) (.int .i64 (T[q].1 : Nat)) (by have h0 := flatT_get T q 0 hlt (by omega); rw [Nat.add_zero] at h0; rw [h0]; rfl)
            rw [Addr.add_lit, Nat.zero_add] at h1
            exact h1
          · have h1 := World.ownsRow.cells hlst (g := g) rfl (q * 2 + 1) (.int .i64 (T[q].2 : Nat)) (by rw [flatT_get T q 1 hlt (by omega)]; rfl)
            rw [Addr.add_lit, Nat.zero_add] at h1
            exact h1
      subst htg
      obtain ⟨tc0, tc1⟩ := htc
      have htl := HTL.out T[q] (List.getElem_mem hlt)
      have HSY := hid (fun h1 h2 => @starts_yes m i kp T q hlt h1 h2)
      have HSN := hid (fun h1 => @starts_no m i kp T q hlt h1)
      have hqI : (q : Int) < (T.length : Int) := by omega
      have hqT : T.length ≤ 4096 := HTI.out
      clear hlst hbu
      generalize T[q] = t at *
      obtain ⟨k, fr⟩ := t
      simp only at tc0 tc1 htl
      obtain ⟨hkn, hfr⟩ := htl
      obtain ⟨fb, fo, hfa, hfb, hfc⟩ := HE.out.ins.at hkn
      have hfi := Sim.inst_eq hkn
      have hwf := HE.out.wf k hkn
      have hright := Sim.right_of HE.out.right hkn
      have HF : Hid (∀ w', Below wb.heap.size wb w' → CellsAt w' fb (fo + k * 7) (m.L[k].cells)) := by
        intro w' hb' j v hj
        rw [hb'.cell (p := ⟨fb, fo + k * 7 + j, none⟩) hfb]
        exact hfc j v hj
      clear hfc
      subst hfa
      have HGO : Hid (goes m i (k, fr) = (decide ((m.inst k).op = 1) && (m.inst k).set.has (m.byte i))) := rfl
      rw [hfi] at HGO hright
      generalize m.L[k] = f at *
      obtain ⟨fop, fset, fx, fy⟩ := f
      have HF2 : Hid (∀ w', Below wb.heap.size wb w' → CellsAt w' fb (fo + k * 7) [.int .i64 fop, .int .u64 fset.a, .int .u64 fset.b, .int .u64 fset.c, .int .u64 fset.d, .int .i64 fx, .int .i64 fy]) := HF.out
      have HWF := hid hwf
      clear HF hfi hwf
      simp only at HGO hright
      unfold Inst.right at hright
      simp only at hright
      have hcI : (k : Int) < (m.L.length : Int) := by omega
      go_upto_region 6 with fail
      have HBT : Hid (Row (wr.alloc (.cells #[.int .i64 k, .int .i64 fr] 96)) wr.heap.size [.int .i64 k, .int .i64 fr] 96) := Row.at wr [.int .i64 k, .int .i64 fr] _
      have HR1 := hid (HR.out.more ((Below.refl _ wr).alloc (Nat.le_refl _) (.cells #[.int .i64 k, .int .i64 fr] 96)))
      have HBU1 := hid (HBU.out.later (S' := []) (But.of_below ((Below.refl _ wr).alloc (Nat.le_refl _) (.cells #[.int .i64 k, .int .i64 fr] 96))) (fun i hi => by cases hi))
      clear tc0 tc1 HR HBU
      generalize wr.alloc (.cells #[.int .i64 k, .int .i64 fr] 96) = y1 at *
      generalize wr.heap.size = bt at *
      have HC := hid (fun (x : World) (hx : Grow y1.drew x) => And.intro (show x.cell? ⟨M, 0, none⟩ = some (.slice (some ⟨fb, fo, none⟩) m.L.length c) from (HR1.out.more (show Below y1.heap.size y1 x from ⟨hx.os, hx.tape, hx.output, hx.size, hx.block⟩)).sim.cells.1) (And.intro (show x.cell? ⟨bt, 0, none⟩ = some (.int .i64 k) from (HBT.out.below (show Below y1.heap.size y1 x from ⟨hx.os, hx.tape, hx.output, hx.size, hx.block⟩) HBT.out.lt).cell 0) (cells7 (HF2.out x (HR1.out.more (show Below y1.heap.size y1 x from ⟨hx.os, hx.tape, hx.output, hx.size, hx.block⟩)).low))))
      refine wp_region_inv 10 (Grow) (by kernel_rfl) (by kernel_rfl) (Grow.refl) (fun _ _ _ => Grow.trans) ?_
      simp only [fill, dstOf, Act.put, List.take_succ_cons, List.take_zero, List.getElem?_toArray, List.getElem?_cons_zero, List.getElem?_cons_succ, Option.bind_some, List.setIfInBounds_toArray, List.set_cons_zero, List.set_cons_succ]
      refine Plan.det 1 rfl (Grow.refl) ?_
      apply Exists.intro
      refine ⟨fun vs x hR hF K hK => ?_, ?_⟩
      · clear hF
        go_simp
        exact hK _ _ (Grow.refl _) rfl
      refine Plan.det 2 rfl (Grow.refl) ?_
      apply Exists.intro
      refine ⟨fun vs x hR hF K hK => ?_, ?_⟩
      · have f0 := hF 0 _ _ rfl rfl; clear hF
        go_simp
        exact hK _ _ (Grow.refl _) rfl
      refine Plan.det 3 rfl (Grow.refl) ?_
      apply Exists.intro
      refine ⟨fun vs x hR hF K hK => ?_, ?_⟩
      · have f1 := hF 0 _ _ rfl rfl; clear hF
        go_simp
        exact hK _ _ (Grow.refl _) rfl
      refine Plan.det 4 rfl (Grow.refl) ?_
      apply Exists.intro
      refine ⟨fun vs x hR hF K hK => ?_, ?_⟩
      · have f2 := hF 0 _ _ rfl rfl; clear hF
        go_simp
        exact hK _ _ (Grow.refl _) rfl
      refine Plan.det 5 rfl (Grow.refl) ?_
      apply Exists.intro
      refine ⟨fun vs x hR hF K hK => ?_, ?_⟩
      · have f3 := hF 0 _ _ rfl rfl; have hc := HC.out x hR; clear hF
        go_simp
        exact hK _ _ (Grow.refl _) rfl
      refine Plan.det 6 rfl (Grow.refl) ?_
      apply Exists.intro
      refine ⟨fun vs x hR hF K hK => ?_, ?_⟩
      · clear hF
        go_simp
        exact hK _ _ (Grow.refl _) rfl
      refine Plan.det 7 rfl (Grow.refl) ?_
      apply Exists.intro
      refine ⟨fun vs x hR hF K hK => ?_, ?_⟩
      · have f5 := hF 0 _ _ rfl rfl; have hc := HC.out x hR; clear hF
        go_simp
        exact hK _ _ (Grow.refl _) rfl
      refine Plan.det 8 rfl (Grow.refl) ?_
      apply Exists.intro
      refine ⟨fun vs x hR hF K hK => ?_, ?_⟩
      · have f4 := hF 2 _ _ rfl rfl; have f6 := hF 0 _ _ rfl rfl; clear hF
        go_simp
        exact hK _ _ (Grow.refl _) rfl
      refine Plan.det 9 rfl (Grow.refl) ?_
      apply Exists.intro
      refine ⟨fun vs x hR hF K hK => ?_, ?_⟩
      · have f7 := hF 0 _ _ rfl rfl; have hc := HC.out x hR; clear hF
        go_simp
        exact hK _ _ (Grow.refl _) rfl
      refine Plan.rel 10 rfl (Grow.refl) (fun v x => ∃ b, v = .pointer (some ⟨b, 0, none⟩) ∧ y1.heap.size ≤ b ∧ Row x b [.int .i64 0, .int .u64 0, .int .u64 0, .int .u64 0, .int .u64 0, .int .i64 0, .int .i64 0] 87) (fun v x y hR ⟨b, h1, h2, h3⟩ => ⟨b, h1, h2, h3.below hR h3.lt⟩) (fun vs x hR hF K hK => ?_) ?_
      · skip
        go_simp
        exact hK _ _ (Grow.alloc _ _) ⟨_, rfl, (by have := Grow.size hR; simp at this; omega), Row.at _ _ _⟩
      refine Plan.nil (fun vs x hR hF => ?_)
      have f0 := hF 9 _ _ rfl; have f1 := hF 8 _ _ rfl; have f2 := hF 7 _ _ rfl; have f3 := hF 6 _ _ rfl; have f4 := hF 5 _ _ rfl; have f5 := hF 4 _ _ rfl; have f6 := hF 3 _ _ rfl; have f7 := hF 2 _ _ rfl; have f8 := hF 1 _ _ rfl; have f9 := hF 0 _ _ rfl
      clear hF
      simp only [f0, f1, f2, f3, f4, f5, f6, f7, f8]
      clear f0 f1 f2 f3 f4 f5 f6 f7 f8
      simp only [List.drop_succ_cons, List.drop_zero]
      obtain ⟨b9, e9, hb9, hrow9⟩ := f9
      simp only [e9]
      have HROW9 := hid hrow9
      have q9 := row7 hrow9
      have hz9 := hrow9.lt
      have hf9 := hrow9.free
      have HBEL : Hid (Below y1.heap.size y1 (((((((x.setCell ⟨b9, 0, none⟩ (.int .i64 fop)).setCell ⟨b9, 1, none⟩ (.int .u64 fset.a)).setCell ⟨b9, 2, none⟩ (.int .u64 fset.b)).setCell ⟨b9, 3, none⟩ (.int .u64 fset.c)).setCell ⟨b9, 4, none⟩ (.int .u64 fset.d)).setCell ⟨b9, 5, none⟩ (.int .i64 fx)).setCell ⟨b9, 6, none⟩ (.int .i64 fy))) := ((((((((show Below y1.heap.size y1 x from ⟨hR.os, hR.tape, hR.output, hR.size, hR.block⟩).setCell (p := ⟨b9, 0, none⟩) hb9 (.int .i64 fop)).setCell (p := ⟨b9, 1, none⟩) hb9 (.int .u64 fset.a)).setCell (p := ⟨b9, 2, none⟩) hb9 (.int .u64 fset.b)).setCell (p := ⟨b9, 3, none⟩) hb9 (.int .u64 fset.c)).setCell (p := ⟨b9, 4, none⟩) hb9 (.int .u64 fset.d)).setCell (p := ⟨b9, 5, none⟩) hb9 (.int .i64 fx)).setCell (p := ⟨b9, 6, none⟩) hb9 (.int .i64 fy))
      have HRS : Hid (Row (((((((x.setCell ⟨b9, 0, none⟩ (.int .i64 fop)).setCell ⟨b9, 1, none⟩ (.int .u64 fset.a)).setCell ⟨b9, 2, none⟩ (.int .u64 fset.b)).setCell ⟨b9, 3, none⟩ (.int .u64 fset.c)).setCell ⟨b9, 4, none⟩ (.int .u64 fset.d)).setCell ⟨b9, 5, none⟩ (.int .i64 fx)).setCell ⟨b9, 6, none⟩ (.int .i64 fy)) b9 [.int .i64 fop, .int .u64 fset.a, .int .u64 fset.b, .int .u64 fset.c, .int .u64 fset.d, .int .i64 fx, .int .i64 fy] 87) := (((((((HROW9.out.set 0 (.int .i64 fop)).set 1 (.int .u64 fset.a)).set 2 (.int .u64 fset.b)).set 3 (.int .u64 fset.c)).set 4 (.int .u64 fset.d)).set 5 (.int .i64 fx)).set 6 (.int .i64 fy))
      clear hR HC hrow9 e9
      go_upto_region 7 with fail
      generalize (((((((x.setCell ⟨b9, 0, none⟩ (.int .i64 fop)).setCell ⟨b9, 1, none⟩ (.int .u64 fset.a)).setCell ⟨b9, 2, none⟩ (.int .u64 fset.b)).setCell ⟨b9, 3, none⟩ (.int .u64 fset.c)).setCell ⟨b9, 4, none⟩ (.int .u64 fset.d)).setCell ⟨b9, 5, none⟩ (.int .i64 fx)).setCell ⟨b9, 6, none⟩ (.int .i64 fy)) = z at *
      have HR2 := hid (HR1.out.more HBEL.out)
      have HBT2 := hid (HBT.out.below HBEL.out HBT.out.lt)
      have HBU2 := hid (HBU1.out.later (S' := []) (But.of_below HBEL.out) (fun i hi => by cases hi))
      clear q9 hz9 hf9 HROW9 HBEL HR1 HBT HBU1 hb9 HF2
      have hiI : (i : Int) < (str.size : Int) := by omega
      have hbyte := byte_eq HE.out.s hi
      have HC := hid (fun (x : World) (hx : Grow z.drew x) => And.intro (show x.cell? ⟨M, 2, none⟩ = some (.string str) from (HR2.out.more (show Below z.heap.size z x from ⟨hx.os, hx.tape, hx.output, hx.size, hx.block⟩)).sim.cells.2.2.1) (And.intro (show x.cell? ⟨bt, 0, none⟩ = some (.int .i64 k) ∧ x.cell? ⟨bt, 1, none⟩ = some (.int .i64 fr) from ⟨(HBT2.out.below (show Below z.heap.size z x from ⟨hx.os, hx.tape, hx.output, hx.size, hx.block⟩) HBT2.out.lt).cell 0, (HBT2.out.below (show Below z.heap.size z x from ⟨hx.os, hx.tape, hx.output, hx.size, hx.block⟩) HBT2.out.lt).cell 1⟩) (row7 (HRS.out.below (show Below z.heap.size z x from ⟨hx.os, hx.tape, hx.output, hx.size, hx.block⟩) HRS.out.lt))))
      have HBX := hid (fun (x : World) (hx : Grow z.drew x) => HBU2.out.later (S' := []) (But.of_below (show Below z.heap.size z x from ⟨hx.os, hx.tape, hx.output, hx.size, hx.block⟩)) (fun i hi => by cases hi))
      rw [hbyte] at HGO
      by_cases hop : fop = 1
      case neg =>
        have d1 : (fop == 1) = false := by simpa using hop
        have hgo : goes m i (k, fr) = false := by rw [HGO.out]; simp [hop]
        refine wp_region_inv 19 (Grow) (by kernel_rfl) (by kernel_rfl) (Grow.refl) (fun _ _ _ => Grow.trans) ?_
        simp only [fill, dstOf, Act.put, List.take_succ_cons, List.take_zero, List.getElem?_toArray, List.getElem?_cons_zero, List.getElem?_cons_succ, Option.bind_some, List.setIfInBounds_toArray, List.set_cons_zero, List.set_cons_succ]
        refine Plan.det 1 rfl (Grow.refl) ?_
        apply Exists.intro
        refine ⟨fun vs x hR hF K hK => ?_, ?_⟩
        · clear hF
          go_simp
          exact hK _ _ (Grow.refl _) rfl
        refine Plan.det 2 rfl (Grow.refl) ?_
        apply Exists.intro
        refine ⟨fun vs x hR hF K hK => ?_, ?_⟩
        · have f0 := hF 0 _ _ rfl rfl; have hc := HC.out x hR; clear hF
          go_simp
          exact hK _ _ (Grow.refl _) rfl
        refine Plan.det 3 rfl (Grow.refl) ?_
        apply Exists.intro
        refine ⟨fun vs x hR hF K hK => ?_, ?_⟩
        · have f1 := hF 0 _ _ rfl rfl; clear hF
          go_simp
          exact hK _ _ (Grow.refl _) rfl
        refine Plan.det 4 rfl (Grow.refl) ?_
        apply Exists.intro
        refine ⟨fun vs x hR hF K hK => ?_, ?_⟩
        · have f2 := hF 0 _ _ rfl rfl; clear hF
          go_simp
          exact hK _ _ (Grow.refl _) rfl
        refine Plan.det 5 rfl (Grow.refl) ?_
        apply Exists.intro
        refine ⟨fun vs x hR hF K hK => ?_, ?_⟩
        · have f3 := hF 0 _ _ rfl rfl; clear hF
          go_simp
          exact hK _ _ (Grow.refl _) rfl
        refine Plan.det 6 rfl (Grow.refl) ?_
        apply Exists.intro
        refine ⟨fun vs x hR hF K hK => ?_, ?_⟩
        · have f3 := hF 1 _ _ rfl rfl; have hc := HC.out x hR; clear hF
          go_simp
          exact hK _ _ (Grow.refl _) rfl
        refine Plan.det 7 rfl (Grow.refl) ?_
        apply Exists.intro
        refine ⟨fun vs x hR hF K hK => ?_, ?_⟩
        · have f3 := hF 2 _ _ rfl rfl; have f4 := hF 1 _ _ rfl rfl; have f5 := hF 0 _ _ rfl rfl; clear hF
          go_simp
          exact hK _ _ (Grow.refl _) rfl
        refine Plan.det 8 rfl (Grow.refl) ?_
        apply Exists.intro
        refine ⟨fun vs x hR hF K hK => ?_, ?_⟩
        · have f3 := hF 3 _ _ rfl rfl; have f6 := hF 0 _ _ rfl rfl; clear hF
          go_simp
          exact hK _ _ (Grow.refl _) rfl
        refine Plan.det 9 rfl (Grow.refl) ?_
        apply Exists.intro
        refine ⟨fun vs x hR hF K hK => ?_, ?_⟩
        · have f6 := hF 1 _ _ rfl rfl; have f7 := hF 0 _ _ rfl rfl; clear hF
          go_simp
          exact hK _ _ (Grow.refl _) rfl
        refine Plan.det 10 rfl (Grow.refl) ?_
        apply Exists.intro
        refine ⟨fun vs x hR hF K hK => ?_, ?_⟩
        · have f8 := hF 0 _ _ rfl rfl; clear hF
          go_simp
          exact hK _ _ (Grow.refl _) rfl
        refine Plan.det 11 rfl (Grow.refl) ?_
        apply Exists.intro
        refine ⟨fun vs x hR hF K hK => ?_, ?_⟩
        · have f8 := hF 1 _ _ rfl rfl; have f9 := hF 0 _ _ rfl rfl; have hc := HC.out x hR; clear hF
          go_simp
          exact hK _ _ (Grow.refl _) rfl
        refine Plan.det 12 rfl (Grow.refl) ?_
        apply Exists.intro
        refine ⟨fun vs x hR hF K hK => ?_, ?_⟩
        · have f8 := hF 2 _ _ rfl rfl; clear hF
          go_simp
          exact hK _ _ (Grow.refl _) rfl
        refine Plan.det 13 rfl (Grow.refl) ?_
        apply Exists.intro
        refine ⟨fun vs x hR hF K hK => ?_, ?_⟩
        · have f8 := hF 3 _ _ rfl rfl; have f11 := hF 0 _ _ rfl rfl; clear hF
          go_simp
          exact hK _ _ (Grow.refl _) rfl
        refine Plan.det 14 rfl (Grow.refl) ?_
        apply Exists.intro
        refine ⟨fun vs x hR hF K hK => ?_, ?_⟩
        · have f8 := hF 4 _ _ rfl rfl; have f12 := hF 0 _ _ rfl rfl; clear hF
          go_simp
          exact hK _ _ (Grow.refl _) rfl
        refine Plan.det 15 rfl (Grow.refl) ?_
        apply Exists.intro
        refine ⟨fun vs x hR hF K hK => ?_, ?_⟩
        · have f8 := hF 5 _ _ rfl rfl; have f13 := hF 0 _ _ rfl rfl; have hc := HC.out x hR; clear hF
          go_simp
          exact hK _ _ (Grow.refl _) rfl
        refine Plan.det 16 rfl (Grow.refl) ?_
        apply Exists.intro
        refine ⟨fun vs x hR hF K hK => ?_, ?_⟩
        · have f8 := hF 6 _ _ rfl rfl; clear hF
          go_simp
          exact hK _ _ (Grow.refl _) rfl
        refine Plan.det 17 rfl (Grow.refl) ?_
        apply Exists.intro
        refine ⟨fun vs x hR hF K hK => ?_, ?_⟩
        · have f8 := hF 7 _ _ rfl rfl; have f14 := hF 1 _ _ rfl rfl; have f15 := hF 0 _ _ rfl rfl; clear hF
          go_simp
          exact hK _ _ (Grow.refl _) rfl
        refine Plan.det 18 rfl (Grow.refl) ?_
        apply Exists.intro
        refine ⟨fun vs x hR hF K hK => ?_, ?_⟩
        · have f8 := hF 8 _ _ rfl rfl; have f10 := hF 6 _ _ rfl rfl; have f16 := hF 0 _ _ rfl rfl; clear hF
          go_simp
          exact hK _ _ (Grow.refl _) rfl
        refine Plan.det 19 rfl (Grow.refl) ?_
        apply Exists.intro
        refine ⟨fun vs x hR hF K hK => ?_, ?_⟩
        · have f8 := hF 9 _ _ rfl rfl; have f17 := hF 0 _ _ rfl rfl; clear hF
          go_simp
          exact hK _ _ (Grow.refl _) rfl
        refine Plan.nil (fun vs x hR hF => ?_)
        have f0 := hF 18 _ _ rfl; have f1 := hF 17 _ _ rfl; have f2 := hF 16 _ _ rfl; have f3 := hF 15 _ _ rfl; have f4 := hF 14 _ _ rfl; have f5 := hF 13 _ _ rfl; have f6 := hF 12 _ _ rfl; have f7 := hF 11 _ _ rfl; have f8 := hF 10 _ _ rfl; have f9 := hF 9 _ _ rfl; have f10 := hF 8 _ _ rfl; have f11 := hF 7 _ _ rfl; have f12 := hF 6 _ _ rfl; have f13 := hF 5 _ _ rfl; have f14 := hF 4 _ _ rfl; have f15 := hF 3 _ _ rfl; have f16 := hF 2 _ _ rfl; have f17 := hF 1 _ _ rfl; have f18 := hF 0 _ _ rfl
        clear hF
        simp only [f0, f1, f2, f3, f4, f5, f6, f7, f8, f9, f10, f11, f12, f13, f14, f15, f16, f17, f18]
        clear f0 f1 f2 f3 f4 f5 f6 f7 f8 f9 f10 f11 f12 f13 f14 f15 f16 f17 f18
        simp only [List.drop_succ_cons, List.drop_zero]
        have HR3 := hid (HR2.out.more (show Below z.heap.size z x from ⟨hR.os, hR.tape, hR.output, hR.size, hR.block⟩))
        have HSE := hid (HSN.out (.inl hgo))
        clear HC hR
        go_wp2_with fail
        case roundEnd =>
          refine ⟨⟨q + 1, mk', sv', St', la, lc, ln, out, hlt, rfl, rfl, HR3.out, ?_, ?_, HM.out, HC0.out, hun⟩, ?_⟩
          · rw [HSE.out]; exact HO.out
          · rw [HSE.out]; exact HV.out
          · show T.length - ((q : Int) + 1).toNat < T.length - (q : Int).toNat
            omega
      subst hop
      have HGO2 : Hid (goes m i (k, fr) = fset.has (str[i]).toNat) := by show _ = _; rw [HGO.out]; simp
      rcases Bool.eq_false_or_eq_true (kp (k, fr)) with hkp | hkp
      case inr =>
        have HK1 := hid (fun (w' : World) (hb : But (M :: ob sv) w w') => by have h1 := HKK.out w' (k, fr) hb; rw [hkp] at h1; exact h1)
        refine wp_region_inv 19 (Grow) (by kernel_rfl) (by kernel_rfl) (Grow.refl) (fun _ _ _ => Grow.trans) ?_
        simp only [fill, dstOf, Act.put, List.take_succ_cons, List.take_zero, List.getElem?_toArray, List.getElem?_cons_zero, List.getElem?_cons_succ, Option.bind_some, List.setIfInBounds_toArray, List.set_cons_zero, List.set_cons_succ]
        refine Plan.det 1 rfl (Grow.refl) ?_
        apply Exists.intro
        refine ⟨fun vs x hR hF K hK => ?_, ?_⟩
        · clear hF
          go_simp
          exact hK _ _ (Grow.refl _) rfl
        refine Plan.det 2 rfl (Grow.refl) ?_
        apply Exists.intro
        refine ⟨fun vs x hR hF K hK => ?_, ?_⟩
        · have f0 := hF 0 _ _ rfl rfl; have hc := HC.out x hR; clear hF
          go_simp
          exact hK _ _ (Grow.refl _) rfl
        refine Plan.det 3 rfl (Grow.refl) ?_
        apply Exists.intro
        refine ⟨fun vs x hR hF K hK => ?_, ?_⟩
        · have f1 := hF 0 _ _ rfl rfl; clear hF
          go_simp
          exact hK _ _ (Grow.refl _) rfl
        refine Plan.det 4 rfl (Grow.refl) ?_
        apply Exists.intro
        refine ⟨fun vs x hR hF K hK => ?_, ?_⟩
        · have f2 := hF 0 _ _ rfl rfl; clear hF
          go_simp
          exact hK _ _ (Grow.refl _) rfl
        refine Plan.det 5 rfl (Grow.refl) ?_
        apply Exists.intro
        refine ⟨fun vs x hR hF K hK => ?_, ?_⟩
        · have f3 := hF 0 _ _ rfl rfl; clear hF
          go_simp
          exact hK _ _ (Grow.refl _) rfl
        refine Plan.det 6 rfl (Grow.refl) ?_
        apply Exists.intro
        refine ⟨fun vs x hR hF K hK => ?_, ?_⟩
        · have f3 := hF 1 _ _ rfl rfl; have hc := HC.out x hR; clear hF
          go_simp
          exact hK _ _ (Grow.refl _) rfl
        refine Plan.det 7 rfl (Grow.refl) ?_
        apply Exists.intro
        refine ⟨fun vs x hR hF K hK => ?_, ?_⟩
        · have f3 := hF 2 _ _ rfl rfl; have f4 := hF 1 _ _ rfl rfl; have f5 := hF 0 _ _ rfl rfl; clear hF
          go_simp
          refine (HK1.out x (HBX.out x hR)).mono ?_
          rintro e x1 ⟨rfl, hbe⟩
          exact ⟨_, rfl, hK _ _ hbe rfl⟩
        refine Plan.det 8 rfl (Grow.refl) ?_
        apply Exists.intro
        refine ⟨fun vs x hR hF K hK => ?_, ?_⟩
        · have f3 := hF 3 _ _ rfl rfl; have f6 := hF 0 _ _ rfl rfl; clear hF
          go_simp
          exact hK _ _ (Grow.refl _) rfl
        refine Plan.det 9 rfl (Grow.refl) ?_
        apply Exists.intro
        refine ⟨fun vs x hR hF K hK => ?_, ?_⟩
        · have f6 := hF 1 _ _ rfl rfl; have f7 := hF 0 _ _ rfl rfl; clear hF
          go_simp
          exact hK _ _ (Grow.refl _) rfl
        refine Plan.det 10 rfl (Grow.refl) ?_
        apply Exists.intro
        refine ⟨fun vs x hR hF K hK => ?_, ?_⟩
        · have f8 := hF 0 _ _ rfl rfl; clear hF
          go_simp
          exact hK _ _ (Grow.refl _) rfl
        refine Plan.det 11 rfl (Grow.refl) ?_
        apply Exists.intro
        refine ⟨fun vs x hR hF K hK => ?_, ?_⟩
        · have f8 := hF 1 _ _ rfl rfl; have f9 := hF 0 _ _ rfl rfl; have hc := HC.out x hR; clear hF
          go_simp
          exact hK _ _ (Grow.refl _) rfl
        refine Plan.det 12 rfl (Grow.refl) ?_
        apply Exists.intro
        refine ⟨fun vs x hR hF K hK => ?_, ?_⟩
        · have f8 := hF 2 _ _ rfl rfl; clear hF
          go_simp
          exact hK _ _ (Grow.refl _) rfl
        refine Plan.det 13 rfl (Grow.refl) ?_
        apply Exists.intro
        refine ⟨fun vs x hR hF K hK => ?_, ?_⟩
        · have f8 := hF 3 _ _ rfl rfl; have f11 := hF 0 _ _ rfl rfl; clear hF
          go_simp
          exact hK _ _ (Grow.refl _) rfl
        refine Plan.det 14 rfl (Grow.refl) ?_
        apply Exists.intro
        refine ⟨fun vs x hR hF K hK => ?_, ?_⟩
        · have f8 := hF 4 _ _ rfl rfl; have f12 := hF 0 _ _ rfl rfl; clear hF
          go_simp
          exact hK _ _ (Grow.refl _) rfl
        refine Plan.det 15 rfl (Grow.refl) ?_
        apply Exists.intro
        refine ⟨fun vs x hR hF K hK => ?_, ?_⟩
        · have f8 := hF 5 _ _ rfl rfl; have f13 := hF 0 _ _ rfl rfl; have hc := HC.out x hR; clear hF
          go_simp
          exact hK _ _ (Grow.refl _) rfl
        refine Plan.det 16 rfl (Grow.refl) ?_
        apply Exists.intro
        refine ⟨fun vs x hR hF K hK => ?_, ?_⟩
        · have f8 := hF 6 _ _ rfl rfl; clear hF
          go_simp
          exact hK _ _ (Grow.refl _) rfl
        refine Plan.det 17 rfl (Grow.refl) ?_
        apply Exists.intro
        refine ⟨fun vs x hR hF K hK => ?_, ?_⟩
        · have f8 := hF 7 _ _ rfl rfl; have f14 := hF 1 _ _ rfl rfl; have f15 := hF 0 _ _ rfl rfl; clear hF
          go_simp
          exact hK _ _ (Grow.refl _) rfl
        refine Plan.det 18 rfl (Grow.refl) ?_
        apply Exists.intro
        refine ⟨fun vs x hR hF K hK => ?_, ?_⟩
        · have f8 := hF 8 _ _ rfl rfl; have f10 := hF 6 _ _ rfl rfl; have f16 := hF 0 _ _ rfl rfl; clear hF
          go_simp
          exact hK _ _ (Grow.refl _) rfl
        refine Plan.det 19 rfl (Grow.refl) ?_
        apply Exists.intro
        refine ⟨fun vs x hR hF K hK => ?_, ?_⟩
        · have f8 := hF 9 _ _ rfl rfl; have f17 := hF 0 _ _ rfl rfl; clear hF
          go_simp
          exact hK _ _ (Grow.refl _) rfl
        refine Plan.nil (fun vs x hR hF => ?_)
        have f0 := hF 18 _ _ rfl; have f1 := hF 17 _ _ rfl; have f2 := hF 16 _ _ rfl; have f3 := hF 15 _ _ rfl; have f4 := hF 14 _ _ rfl; have f5 := hF 13 _ _ rfl; have f6 := hF 12 _ _ rfl; have f7 := hF 11 _ _ rfl; have f8 := hF 10 _ _ rfl; have f9 := hF 9 _ _ rfl; have f10 := hF 8 _ _ rfl; have f11 := hF 7 _ _ rfl; have f12 := hF 6 _ _ rfl; have f13 := hF 5 _ _ rfl; have f14 := hF 4 _ _ rfl; have f15 := hF 3 _ _ rfl; have f16 := hF 2 _ _ rfl; have f17 := hF 1 _ _ rfl; have f18 := hF 0 _ _ rfl
        clear hF
        simp only [f0, f1, f2, f3, f4, f5, f6, f7, f8, f9, f10, f11, f12, f13, f14, f15, f16, f17, f18]
        clear f0 f1 f2 f3 f4 f5 f6 f7 f8 f9 f10 f11 f12 f13 f14 f15 f16 f17 f18
        simp only [List.drop_succ_cons, List.drop_zero]
        have HR3 := hid (HR2.out.more (show Below z.heap.size z x from ⟨hR.os, hR.tape, hR.output, hR.size, hR.block⟩))
        have HSE := hid (HSN.out (.inr hkp))
        clear HC hR
        go_wp2_with fail
        case roundEnd =>
          refine ⟨⟨q + 1, mk', sv', St', la, lc, ln, out, hlt, rfl, rfl, HR3.out, ?_, ?_, HM.out, HC0.out, hun⟩, ?_⟩
          · rw [HSE.out]; exact HO.out
          · rw [HSE.out]; exact HV.out
          · show T.length - ((q : Int) + 1).toNat < T.length - (q : Int).toNat
            omega
      have HK1 := hid (fun (w' : World) (hb : But (M :: ob sv) w w') => by have h1 := HKK.out w' (k, fr) hb; rw [hkp] at h1; exact h1)
      have HH := hid (fun (x : World) => Has2_any fset (str[i]).toNat x HWF.out (UInt8.toNat_lt _))
      rcases Bool.eq_false_or_eq_true (fset.has (str[i]).toNat) with hhs | hhs
      case inr =>
        rw [hhs] at HH
        have hgo : goes m i (k, fr) = false := by rw [HGO2.out]; exact hhs
        refine wp_region_inv 19 (Grow) (by kernel_rfl) (by kernel_rfl) (Grow.refl) (fun _ _ _ => Grow.trans) ?_
        simp only [fill, dstOf, Act.put, List.take_succ_cons, List.take_zero, List.getElem?_toArray, List.getElem?_cons_zero, List.getElem?_cons_succ, Option.bind_some, List.setIfInBounds_toArray, List.set_cons_zero, List.set_cons_succ]
        refine Plan.det 1 rfl (Grow.refl) ?_
        apply Exists.intro
        refine ⟨fun vs x hR hF K hK => ?_, ?_⟩
        · clear hF
          go_simp
          exact hK _ _ (Grow.refl _) rfl
        refine Plan.det 2 rfl (Grow.refl) ?_
        apply Exists.intro
        refine ⟨fun vs x hR hF K hK => ?_, ?_⟩
        · have f0 := hF 0 _ _ rfl rfl; have hc := HC.out x hR; clear hF
          go_simp
          exact hK _ _ (Grow.refl _) rfl
        refine Plan.det 3 rfl (Grow.refl) ?_
        apply Exists.intro
        refine ⟨fun vs x hR hF K hK => ?_, ?_⟩
        · have f1 := hF 0 _ _ rfl rfl; clear hF
          go_simp
          exact hK _ _ (Grow.refl _) rfl
        refine Plan.det 4 rfl (Grow.refl) ?_
        apply Exists.intro
        refine ⟨fun vs x hR hF K hK => ?_, ?_⟩
        · have f2 := hF 0 _ _ rfl rfl; clear hF
          go_simp
          exact hK _ _ (Grow.refl _) rfl
        refine Plan.det 5 rfl (Grow.refl) ?_
        apply Exists.intro
        refine ⟨fun vs x hR hF K hK => ?_, ?_⟩
        · have f3 := hF 0 _ _ rfl rfl; clear hF
          go_simp
          exact hK _ _ (Grow.refl _) rfl
        refine Plan.det 6 rfl (Grow.refl) ?_
        apply Exists.intro
        refine ⟨fun vs x hR hF K hK => ?_, ?_⟩
        · have f3 := hF 1 _ _ rfl rfl; have hc := HC.out x hR; clear hF
          go_simp
          exact hK _ _ (Grow.refl _) rfl
        refine Plan.det 7 rfl (Grow.refl) ?_
        apply Exists.intro
        refine ⟨fun vs x hR hF K hK => ?_, ?_⟩
        · have f3 := hF 2 _ _ rfl rfl; have f4 := hF 1 _ _ rfl rfl; have f5 := hF 0 _ _ rfl rfl; clear hF
          go_simp
          refine (HK1.out x (HBX.out x hR)).mono ?_
          rintro e x1 ⟨rfl, hbe⟩
          exact ⟨_, rfl, hK _ _ hbe rfl⟩
        refine Plan.det 8 rfl (Grow.refl) ?_
        apply Exists.intro
        refine ⟨fun vs x hR hF K hK => ?_, ?_⟩
        · have f3 := hF 3 _ _ rfl rfl; have f6 := hF 0 _ _ rfl rfl; clear hF
          go_simp
          exact hK _ _ (Grow.refl _) rfl
        refine Plan.det 9 rfl (Grow.refl) ?_
        apply Exists.intro
        refine ⟨fun vs x hR hF K hK => ?_, ?_⟩
        · have f6 := hF 1 _ _ rfl rfl; have f7 := hF 0 _ _ rfl rfl; clear hF
          go_simp
          exact hK _ _ (Grow.refl _) rfl
        refine Plan.det 10 rfl (Grow.refl) ?_
        apply Exists.intro
        refine ⟨fun vs x hR hF K hK => ?_, ?_⟩
        · have f8 := hF 0 _ _ rfl rfl; clear hF
          go_simp
          exact hK _ _ (Grow.refl _) rfl
        refine Plan.det 11 rfl (Grow.refl) ?_
        apply Exists.intro
        refine ⟨fun vs x hR hF K hK => ?_, ?_⟩
        · have f8 := hF 1 _ _ rfl rfl; have f9 := hF 0 _ _ rfl rfl; have hc := HC.out x hR; clear hF
          go_simp
          exact hK _ _ (Grow.refl _) rfl
        refine Plan.det 12 rfl (Grow.refl) ?_
        apply Exists.intro
        refine ⟨fun vs x hR hF K hK => ?_, ?_⟩
        · have f8 := hF 2 _ _ rfl rfl; clear hF
          go_simp
          exact hK _ _ (Grow.refl _) rfl
        refine Plan.det 13 rfl (Grow.refl) ?_
        apply Exists.intro
        refine ⟨fun vs x hR hF K hK => ?_, ?_⟩
        · have f8 := hF 3 _ _ rfl rfl; have f11 := hF 0 _ _ rfl rfl; clear hF
          go_simp
          exact hK _ _ (Grow.refl _) rfl
        refine Plan.det 14 rfl (Grow.refl) ?_
        apply Exists.intro
        refine ⟨fun vs x hR hF K hK => ?_, ?_⟩
        · have f8 := hF 4 _ _ rfl rfl; have f12 := hF 0 _ _ rfl rfl; clear hF
          go_simp
          exact hK _ _ (Grow.refl _) rfl
        refine Plan.det 15 rfl (Grow.refl) ?_
        apply Exists.intro
        refine ⟨fun vs x hR hF K hK => ?_, ?_⟩
        · have f8 := hF 5 _ _ rfl rfl; have f13 := hF 0 _ _ rfl rfl; have hc := HC.out x hR; clear hF
          go_simp
          exact hK _ _ (Grow.refl _) rfl
        refine Plan.det 16 rfl (Grow.refl) ?_
        apply Exists.intro
        refine ⟨fun vs x hR hF K hK => ?_, ?_⟩
        · have f8 := hF 6 _ _ rfl rfl; clear hF
          go_simp
          exact hK _ _ (Grow.refl _) rfl
        refine Plan.det 17 rfl (Grow.refl) ?_
        apply Exists.intro
        refine ⟨fun vs x hR hF K hK => ?_, ?_⟩
        · have f8 := hF 7 _ _ rfl rfl; have f14 := hF 1 _ _ rfl rfl; have f15 := hF 0 _ _ rfl rfl; clear hF
          go_simp
          exact hK _ _ (Grow.refl _) rfl
        refine Plan.det 18 rfl (Grow.refl) ?_
        apply Exists.intro
        refine ⟨fun vs x hR hF K hK => ?_, ?_⟩
        · have f8 := hF 8 _ _ rfl rfl; have f10 := hF 6 _ _ rfl rfl; have f16 := hF 0 _ _ rfl rfl; clear hF
          go_simp
          refine (HH.out x).mono ?_
          rintro e x1 ⟨rfl, hbe⟩
          exact ⟨_, rfl, hK _ _ hbe rfl⟩
        refine Plan.det 19 rfl (Grow.refl) ?_
        apply Exists.intro
        refine ⟨fun vs x hR hF K hK => ?_, ?_⟩
        · have f8 := hF 9 _ _ rfl rfl; have f17 := hF 0 _ _ rfl rfl; clear hF
          go_simp
          exact hK _ _ (Grow.refl _) rfl
        refine Plan.nil (fun vs x hR hF => ?_)
        have f0 := hF 18 _ _ rfl; have f1 := hF 17 _ _ rfl; have f2 := hF 16 _ _ rfl; have f3 := hF 15 _ _ rfl; have f4 := hF 14 _ _ rfl; have f5 := hF 13 _ _ rfl; have f6 := hF 12 _ _ rfl; have f7 := hF 11 _ _ rfl; have f8 := hF 10 _ _ rfl; have f9 := hF 9 _ _ rfl; have f10 := hF 8 _ _ rfl; have f11 := hF 7 _ _ rfl; have f12 := hF 6 _ _ rfl; have f13 := hF 5 _ _ rfl; have f14 := hF 4 _ _ rfl; have f15 := hF 3 _ _ rfl; have f16 := hF 2 _ _ rfl; have f17 := hF 1 _ _ rfl; have f18 := hF 0 _ _ rfl
        clear hF
        simp only [f0, f1, f2, f3, f4, f5, f6, f7, f8, f9, f10, f11, f12, f13, f14, f15, f16, f17, f18]
        clear f0 f1 f2 f3 f4 f5 f6 f7 f8 f9 f10 f11 f12 f13 f14 f15 f16 f17 f18
        simp only [List.drop_succ_cons, List.drop_zero]
        have HR3 := hid (HR2.out.more (show Below z.heap.size z x from ⟨hR.os, hR.tape, hR.output, hR.size, hR.block⟩))
        have HSE := hid (HSN.out (.inl hgo))
        clear HC hR
        go_wp2_with fail
        case roundEnd =>
          refine ⟨⟨q + 1, mk', sv', St', la, lc, ln, out, hlt, rfl, rfl, HR3.out, ?_, ?_, HM.out, HC0.out, hun⟩, ?_⟩
          · rw [HSE.out]; exact HO.out
          · rw [HSE.out]; exact HV.out
          · show T.length - ((q : Int) + 1).toNat < T.length - (q : Int).toNat
            omega
      rw [hhs] at HH
      have hgo : goes m i (k, fr) = true := by rw [HGO2.out]; exact hhs
      refine wp_region_inv 19 (Grow) (by kernel_rfl) (by kernel_rfl) (Grow.refl) (fun _ _ _ => Grow.trans) ?_
      simp only [fill, dstOf, Act.put, List.take_succ_cons, List.take_zero, List.getElem?_toArray, List.getElem?_cons_zero, List.getElem?_cons_succ, Option.bind_some, List.setIfInBounds_toArray, List.set_cons_zero, List.set_cons_succ]
      refine Plan.det 1 rfl (Grow.refl) ?_
      apply Exists.intro
      refine ⟨fun vs x hR hF K hK => ?_, ?_⟩
      · clear hF
        go_simp
        exact hK _ _ (Grow.refl _) rfl
      refine Plan.det 2 rfl (Grow.refl) ?_
      apply Exists.intro
      refine ⟨fun vs x hR hF K hK => ?_, ?_⟩
      · have f0 := hF 0 _ _ rfl rfl; have hc := HC.out x hR; clear hF
        go_simp
        exact hK _ _ (Grow.refl _) rfl
      refine Plan.det 3 rfl (Grow.refl) ?_
      apply Exists.intro
      refine ⟨fun vs x hR hF K hK => ?_, ?_⟩
      · have f1 := hF 0 _ _ rfl rfl; clear hF
        go_simp
        exact hK _ _ (Grow.refl _) rfl
      refine Plan.det 4 rfl (Grow.refl) ?_
      apply Exists.intro
      refine ⟨fun vs x hR hF K hK => ?_, ?_⟩
      · have f2 := hF 0 _ _ rfl rfl; clear hF
        go_simp
        exact hK _ _ (Grow.refl _) rfl
      refine Plan.det 5 rfl (Grow.refl) ?_
      apply Exists.intro
      refine ⟨fun vs x hR hF K hK => ?_, ?_⟩
      · have f3 := hF 0 _ _ rfl rfl; clear hF
        go_simp
        exact hK _ _ (Grow.refl _) rfl
      refine Plan.det 6 rfl (Grow.refl) ?_
      apply Exists.intro
      refine ⟨fun vs x hR hF K hK => ?_, ?_⟩
      · have f3 := hF 1 _ _ rfl rfl; have hc := HC.out x hR; clear hF
        go_simp
        exact hK _ _ (Grow.refl _) rfl
      refine Plan.det 7 rfl (Grow.refl) ?_
      apply Exists.intro
      refine ⟨fun vs x hR hF K hK => ?_, ?_⟩
      · have f3 := hF 2 _ _ rfl rfl; have f4 := hF 1 _ _ rfl rfl; have f5 := hF 0 _ _ rfl rfl; clear hF
        go_simp
        refine (HK1.out x (HBX.out x hR)).mono ?_
        rintro e x1 ⟨rfl, hbe⟩
        exact ⟨_, rfl, hK _ _ hbe rfl⟩
      refine Plan.det 8 rfl (Grow.refl) ?_
      apply Exists.intro
      refine ⟨fun vs x hR hF K hK => ?_, ?_⟩
      · have f3 := hF 3 _ _ rfl rfl; have f6 := hF 0 _ _ rfl rfl; clear hF
        go_simp
        exact hK _ _ (Grow.refl _) rfl
      refine Plan.det 9 rfl (Grow.refl) ?_
      apply Exists.intro
      refine ⟨fun vs x hR hF K hK => ?_, ?_⟩
      · have f6 := hF 1 _ _ rfl rfl; have f7 := hF 0 _ _ rfl rfl; clear hF
        go_simp
        exact hK _ _ (Grow.refl _) rfl
      refine Plan.det 10 rfl (Grow.refl) ?_
      apply Exists.intro
      refine ⟨fun vs x hR hF K hK => ?_, ?_⟩
      · have f8 := hF 0 _ _ rfl rfl; clear hF
        go_simp
        exact hK _ _ (Grow.refl _) rfl
      refine Plan.det 11 rfl (Grow.refl) ?_
      apply Exists.intro
      refine ⟨fun vs x hR hF K hK => ?_, ?_⟩
      · have f8 := hF 1 _ _ rfl rfl; have f9 := hF 0 _ _ rfl rfl; have hc := HC.out x hR; clear hF
        go_simp
        exact hK _ _ (Grow.refl _) rfl
      refine Plan.det 12 rfl (Grow.refl) ?_
      apply Exists.intro
      refine ⟨fun vs x hR hF K hK => ?_, ?_⟩
      · have f8 := hF 2 _ _ rfl rfl; clear hF
        go_simp
        exact hK _ _ (Grow.refl _) rfl
      refine Plan.det 13 rfl (Grow.refl) ?_
      apply Exists.intro
      refine ⟨fun vs x hR hF K hK => ?_, ?_⟩
      · have f8 := hF 3 _ _ rfl rfl; have f11 := hF 0 _ _ rfl rfl; clear hF
        go_simp
        exact hK _ _ (Grow.refl _) rfl
      refine Plan.det 14 rfl (Grow.refl) ?_
      apply Exists.intro
      refine ⟨fun vs x hR hF K hK => ?_, ?_⟩
      · have f8 := hF 4 _ _ rfl rfl; have f12 := hF 0 _ _ rfl rfl; clear hF
        go_simp
        exact hK _ _ (Grow.refl _) rfl
      refine Plan.det 15 rfl (Grow.refl) ?_
      apply Exists.intro
      refine ⟨fun vs x hR hF K hK => ?_, ?_⟩
      · have f8 := hF 5 _ _ rfl rfl; have f13 := hF 0 _ _ rfl rfl; have hc := HC.out x hR; clear hF
        go_simp
        exact hK _ _ (Grow.refl _) rfl
      refine Plan.det 16 rfl (Grow.refl) ?_
      apply Exists.intro
      refine ⟨fun vs x hR hF K hK => ?_, ?_⟩
      · have f8 := hF 6 _ _ rfl rfl; clear hF
        go_simp
        exact hK _ _ (Grow.refl _) rfl
      refine Plan.det 17 rfl (Grow.refl) ?_
      apply Exists.intro
      refine ⟨fun vs x hR hF K hK => ?_, ?_⟩
      · have f8 := hF 7 _ _ rfl rfl; have f14 := hF 1 _ _ rfl rfl; have f15 := hF 0 _ _ rfl rfl; clear hF
        go_simp
        exact hK _ _ (Grow.refl _) rfl
      refine Plan.det 18 rfl (Grow.refl) ?_
      apply Exists.intro
      refine ⟨fun vs x hR hF K hK => ?_, ?_⟩
      · have f8 := hF 8 _ _ rfl rfl; have f10 := hF 6 _ _ rfl rfl; have f16 := hF 0 _ _ rfl rfl; clear hF
        go_simp
        refine (HH.out x).mono ?_
        rintro e x1 ⟨rfl, hbe⟩
        exact ⟨_, rfl, hK _ _ hbe rfl⟩
      refine Plan.det 19 rfl (Grow.refl) ?_
      apply Exists.intro
      refine ⟨fun vs x hR hF K hK => ?_, ?_⟩
      · have f8 := hF 9 _ _ rfl rfl; have f17 := hF 0 _ _ rfl rfl; clear hF
        go_simp
        exact hK _ _ (Grow.refl _) rfl
      refine Plan.nil (fun vs x hR hF => ?_)
      have f0 := hF 18 _ _ rfl; have f1 := hF 17 _ _ rfl; have f2 := hF 16 _ _ rfl; have f3 := hF 15 _ _ rfl; have f4 := hF 14 _ _ rfl; have f5 := hF 13 _ _ rfl; have f6 := hF 12 _ _ rfl; have f7 := hF 11 _ _ rfl; have f8 := hF 10 _ _ rfl; have f9 := hF 9 _ _ rfl; have f10 := hF 8 _ _ rfl; have f11 := hF 7 _ _ rfl; have f12 := hF 6 _ _ rfl; have f13 := hF 5 _ _ rfl; have f14 := hF 4 _ _ rfl; have f15 := hF 3 _ _ rfl; have f16 := hF 2 _ _ rfl; have f17 := hF 1 _ _ rfl; have f18 := hF 0 _ _ rfl
      clear hF
      simp only [f0, f1, f2, f3, f4, f5, f6, f7, f8, f9, f10, f11, f12, f13, f14, f15, f16, f17, f18]
      clear f0 f1 f2 f3 f4 f5 f6 f7 f8 f9 f10 f11 f12 f13 f14 f15 f16 f17 f18
      simp only [List.drop_succ_cons, List.drop_zero]
      have hbz : Below z.heap.size z x := ⟨hR.os, hR.tape, hR.output, hR.size, hR.block⟩
      have HR3 := hid (HR2.out.more hbz)
      have hbt3 := HBT2.out.below hbz HBT2.out.lt
      have qt : x.cell? ⟨bt, 0, none⟩ = some (.int .i64 k) ∧ x.cell? ⟨bt, 1, none⟩ = some (.int .i64 fr) := ⟨hbt3.cell 0, hbt3.cell 1⟩
      have HSE := hid (HSY.out hgo hkp)
      have hk1 : k + 1 < m.L.length := by omega
      have hol : out.length ≤ 1000000 := by omega
      have hre := reach_any wb x m M _ c str (st + 1) sv' (.slice la ln lc) mk' St' out (k + 1) fr (i + 1) HE.out HR3.out.again hk1 (by omega) hfr hol HC0.out
      rw [show ((k + 1 : Nat) : Int) = (k : Int) + 1 by omega, show ((i + 1 : Nat) : Int) = (i : Int) + 1 by omega] at hre
      have HRE := hid hre
      clear hre
      clear HC hR hbz hbt3 HBX HK1 HH
      go_wp2_with fail
      refine HRE.out.mono ?_
      rintro e w5 ⟨mk5, sv5, lv5, news, rfl, hr5, hnd, hmem, hv5, ho5, hl5⟩
      obtain ⟨la5, n5, lc5, hlv5⟩ : ∃ a n c, lv5 = .slice a n c := by
        obtain ⟨a5, c5, h5⟩ := ownsRow_shape hr5.lst
        exact ⟨_, _, _, h5⟩
      subst hlv5
      have HR5 := hid (HR3.out.then hr5)
      have HO5 : Hid (Outs m (i + 1) (starts m i kp (T.take (q + 1))) (out ++ news.map fun k => (k, fr))) := by
        show Outs _ _ _ _
        rw [HSE.out]
        exact HO.out.add hnd fun k' => by rw [hmem k', Ne, HV.out k']
      have HV5 : Hid (∀ k, mk5 k = st + 1 ↔ ∃ s, s ∈ starts m i kp (T.take (q + 1)) ∧ m.Reach (i + 1) (· = s.1) k) := by
        intro k'
        rw [HSE.out, hv5 k', HV.out k']
        constructor
        · rintro (⟨s, hs, hr⟩ | hr)
          · exact ⟨s, by simp [hs], hr⟩
          · exact ⟨(k + 1, fr), by simp, hr⟩
        · rintro ⟨s, hs, hr⟩
          rcases List.mem_append.1 hs with hs | hs
          · exact .inl ⟨s, hs, hr⟩
          · obtain rfl : s = (k + 1, fr) := by simpa using hs
            exact .inr hr
      have HM5 : Hid (∀ k, mk5 k ≤ st + 1) := by
        intro k'
        have := HM.out k'
        rcases ho5 k' with h1 | h1 <;> omega
      have HC5 : Hid (∀ k, mk5 k = st + 1 → ∀ j, j ∈ m.eps (i + 1) k → mk5 j = st + 1) := by
        intro k' hk' j hj
        rw [hv5]
        rcases (hv5 k').1 hk' with h1 | h1
        · exact .inl (HC0.out k' h1 j hj)
        · exact .inr (.step h1 hj)
      clear hr5 hnd hmem hv5 ho5 HRE qt
      go_wp2_with fail
      case roundEnd =>
        refine ⟨⟨q + 1, mk5, sv5, [], la5, lc5, _, out ++ news.map fun k => (k, fr), hlt, rfl, rfl, HR5.out, HO5.out, HV5.out, HM5.out, HC5.out, ?_⟩, ?_⟩
        · rw [List.length_append, List.length_map]; omega
        · show T.length - ((q : Int) + 1).toNat < T.length - (q : Int).toNat
          omega
    · obtain rfl : q = T.length := by omega
      rw [List.take_length] at HO HV
      go_wp2_with fail
      all_goals
        (try go_ret)
        exact HPP.out mk' _ _ _ _ _ HR.out HO.out HV.out HM.out HC0.out hun

end Go.Proofs.Ythnpbopnpdlmnaa
