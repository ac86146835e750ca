/- The program's Longest. -/
import Derived.Test.YthnpbopnpdlmnaaX20
import Derived.WalkMore
import Derived.Laws.ResultCell
namespace Go.Proofs.Ythnpbopnpdlmnaa
open Go.RowKit
attribute [local go_sem] gives givesUpon

structure Pre (w : World) (m : Sim) (a : Option Addr) (str : ByteArray) : Prop where
  ins : InsAt w a m.L
  wf : ∀ k (h : k < m.L.length), m.L[k].set.wf
  s : m.s = str.data.toList
  short : str.size ≤ 1000000
  few : m.L.length ≤ 4096
theorem Pre.below {w w' : World} {m : Sim} {a : Option Addr} {str : ByteArray} (h : Pre w m a str) (hb : Below w.heap.size w w') : Pre w' m a str := ⟨h.ins.below hb (Nat.le_refl _), h.wf, h.s, h.short, h.few⟩
theorem Pre.env {w : World} {m : Sim} {a : Option Addr} {str : ByteArray} (h : Pre w m a str) (hr : rightAll m.L) : Env w m a str := ⟨h.ins, hr, h.wf, h.s, h.short⟩
def LgPost (m : Sim) (w : World) (at_ : Int) (e : Ending) (w' : World) : Prop :=
  Below w.heap.size w w' ∧ (((¬ rightAll m.L ∨ at_ < 0 ∨ (m.s.length : Int) < at_) ∧ e = .returned (.tuple #[.int .i64 0, .bool false])) ∨
    (rightAll m.L ∧ ∃ (f : Nat) (b : Option Nat), at_ = f ∧ f ≤ m.s.length ∧ Long m f (m.s.length + 1) b ∧ e = .returned (.tuple #[.int .i64 (b.getD 0 : Nat), .bool b.isSome])))
set_option maxRecDepth 100000 in
set_option maxHeartbeats 16000000 in
theorem Longest_any (w : World) (m : Sim) (a : Option Addr) (c : Nat) (str : ByteArray) (at_ : Int) (h : Pre w m a str) :
    Calls Try.prog 22 #[.agg #[.slice a m.L.length c, .bool m.lines], .string str, .int .i64 at_] w (LgPost m w at_) := by
  have hsz := size_eq h.s
  have HPN : Hid (∀ w', Below w.heap.size w w' → (¬ rightAll m.L ∨ at_ < 0 ∨ (str.size : Int) < at_) → LgPost m w at_ (.returned (.tuple #[.int .i64 0, .bool false])) w') := fun w' h1 h2 => ⟨h1, .inl ⟨by rw [hsz]; exact h2, rfl⟩⟩
  have HPY : Hid (∀ w' (f : Nat) (b : Option Nat), Below w.heap.size w w' → rightAll m.L → at_ = f → f ≤ str.size → Long m f (str.size + 1) b → LgPost m w at_ (.returned (.tuple #[.int .i64 (b.getD 0 : Nat), .bool b.isSome])) w') := fun w' f b h1 h2 h3 h4 h5 => ⟨h1, .inr ⟨h2, f, b, h3, by rw [hsz]; exact h4, by rw [hsz]; exact h5, rfl⟩⟩
  clear hsz
  generalize LgPost m w at_ = PP at *
  have hshort := h.short
  have hfew := h.few
  have HBX : Hid (Row (w.alloc (.cells #[.slice a m.L.length c, .bool m.lines] 59)) w.heap.size [.slice a m.L.length c, .bool m.lines] 59) := Row.at w [.slice a m.L.length c, .bool m.lines] _
  have HB0 : Hid (Below w.heap.size w (w.alloc (.cells #[.slice a m.L.length c, .bool m.lines] 59))) := Grow.alloc w _
  have HPR := hid (h.below HB0.out)
  clear h
  have HS := hid (simulate_any (w.alloc (.cells #[.slice a m.L.length c, .bool m.lines] 59)) m a c str HPR.out.ins HPR.out.few)
  go_enter Try.func22, Try.ntmps22
  go_wp2_with fail
  go_step3
  generalize w.alloc (.cells #[.slice a m.L.length c, .bool m.lines] 59) = w1 at *
  have q : w1.cell? ⟨w.heap.size, 0, none⟩ = some (.slice a m.L.length c) ∧ w1.cell? ⟨w.heap.size, 1, none⟩ = some (.bool m.lines) := ⟨HBX.out.cell 0, HBX.out.cell 1⟩
  have HBL : Hid (w.heap.size < w1.heap.size) := HBX.out.lt
  generalize w.heap.size = b0 at q HBX HBL
  go_wp2_with fail
  refine HS.out.mono ?_
  rintro e w2 (⟨hnr, rfl, hb2⟩ | ⟨hr, M, rfl, hr2, hb2⟩)
  · have HB2 := hid (HB0.out.trans (hb2.mono HB0.out.size))
    have HNR := hid hnr
    clear hb2 hnr
    go_wp2_with fail
    all_goals (try go_ret)
    all_goals exact HPN.out _ HB2.out (.inl HNR.out)
  have HB2 := hid (HB0.out.trans (hb2.mono HB0.out.size))
  have HR2 := hid hr2
  have HRI := hid hr
  have HE := hid (HPR.out.env hr)
  clear hb2 hr2 hr
  rcases Int.lt_or_le at_ 0 with h0 | h0
  · go_wp2_with fail
    all_goals (try go_ret)
    all_goals exact HPN.out _ HB2.out (.inr (.inl h0))
  rcases Int.lt_or_le (str.size : Int) at_ with h1 | h1
  · go_wp2_with fail
    all_goals (try go_ret)
    all_goals exact HPN.out _ HB2.out (.inr (.inr h1))
  obtain ⟨f, rfl⟩ := Int.eq_ofNat_of_zero_le h0
  have q2 := HR2.out.sim.cells
  have z2 := HR2.out.sim.lt
  have f2 := HR2.out.sim.free
  have HR3 := hid (HR2.out.step 1)
  have hfs : f ≤ str.size := by omega
  have HF := hid (sgl_first w1 w2 (w2.setCell ⟨M, 4099, none⟩ (.int .i64 1)) m M a c str f HE.out HR3.out hfs)
  clear q
  go_wp2_with fail
  generalize w2.setCell ⟨M, 4099, none⟩ (.int .i64 1) = w3 at *
  refine HF.out.mono ?_
  rintro e w4 ⟨lv, T0, rfl, hsg⟩
  obtain ⟨la0, lc0, hla0⟩ : ∃ la lc, lv = .slice la T0.length lc := by
    obtain ⟨mk, sv, St, h1, -⟩ := id hsg
    exact ownsRow_shape h1.lst
  subst hla0
  have HSG := hid hsg
  have HLW : Hid (Long m f f none) := fun j h1 h2 => absurd h2 (by omega)
  clear hsg q2 z2 f2 HF HR3 HR2
  go_wp2_with fail
  go_step3
  go_wp2_with fail
  go_loopw [9, 10, 11, 12] (fun ve vf vl vi wr => ∃ (i : Nat) (la : Option Addr) (lc : Nat) (T : List (Nat × Nat)) (b : Option Nat), i ≤ str.size ∧ f ≤ i ∧ vi = .int .i64 i ∧ vl = .slice la T.length lc ∧ ve = .int .i64 (b.getD 0 : Nat) ∧ vf = .bool b.isSome ∧ Hid (Sgl w1 w2 m M a c str f i ((i : Int) - f + 1) (.slice la T.length lc) T wr) ∧ Hid (Long m f i b)) (fun _ _ _ vi _ => str.size + 1 - (intOf vi).toNat)
  case atStart =>
    refine ⟨f, la0, lc0, T0, none, hfs, Nat.le_refl _, rfl, rfl, rfl, rfl, ?_, HLW.out⟩
    rw [show (f : Int) - f + 1 = 1 by omega]
    exact HSG.out
  case round =>
    obtain ⟨i, la, lc, T, b, hi, hfi, rfl, rfl, rfl, rfl, HSG, HLW⟩ := hrel
    go_wp2_with fail
    go_loopw [9, 10, 46] (fun ve vf ix wr2 => ∃ (q : Nat) (bq : Option Nat), q ≤ T.length ∧ ix = .int .i64 q ∧ ve = .int .i64 (bq.getD 0 : Nat) ∧ vf = .bool bq.isSome ∧ Hid (bq = if some6 m (T.take q) = true then some i else b) ∧ Hid (Sgl w1 w2 m M a c str f i ((i : Int) - f + 1) (.slice la T.length lc) T wr2)) (fun _ _ ix _ => T.length - (intOf ix).toNat)
    case atStart => exact ⟨0, b, by omega, rfl, rfl, rfl, rfl, HSG.out⟩
    case round =>
      obtain ⟨q, bq, hq, rfl, rfl, rfl, HBQ, HS2⟩ := hrel
      have hTl : T.length ≤ 4096 := by
        obtain ⟨_, _, _, _, _, _, h⟩ := HS2.out
        omega
      rcases Nat.lt_or_ge q T.length with hlt | hge
      · have HST : Hid ((if some6 m (T.take (q + 1)) = true then some i else b) = if (m.inst T[q].1).op = 6 then some i else bq) := by
          show _ = _
          rw [HBQ.out, List.take_add_one, List.getElem?_eq_getElem hlt]
          show (if some6 m (T.take q ++ [T[q]]) = true then some i else b) = _
          rw [some6_snoc]
          by_cases h6 : (m.inst T[q].1).op = 6 <;> simp [h6]
        obtain ⟨mk, sv, St, hr, ht, -, -⟩ := id HS2.out
        have hkn : T[q].1 < m.L.length := ht.lt HE.out.right (List.getElem_mem hlt)
        obtain ⟨tg, htg, htz, htc⟩ : ∃ g, la = some ⟨g, 0, none⟩ ∧ g < wr.heap.size ∧ (wr.cell? ⟨g, q * 2, none⟩ = some (.int .i64 (T[q].1 : Nat)) ∧ wr.cell? ⟨g, q * 2 + 1, none⟩ = some (.int .i64 (T[q].2 : Nat))) := by
          obtain ⟨-, h2⟩ := id hr.lst
          rcases h2 with ⟨-, h2⟩ | ⟨g, cap, cur, hv, -⟩
          · omega
          · injection hv with e1
            subst e1
            refine ⟨g, rfl, (hr.lst.lt g rfl).2, ?_, ?_⟩
            · have h1 := World.ownsRow.cells hr.lst (g := g) rfl (q * 2) (.int .i64 (T[q].1 : Nat)) (by have h0 := flatT_get T q 0 hlt (by omega); rw [Nat.add_zero] at h0; rw [h0]; rfl)
              rw [Addr.add_lit, Nat.zero_add] at h1
              exact h1
            · have h1 := World.ownsRow.cells hr.lst (g := g) rfl (q * 2 + 1) (.int .i64 (T[q].2 : Nat)) (by rw [flatT_get T q 1 hlt (by omega)]; rfl)
              rw [Addr.add_lit, Nat.zero_add] at h1
              exact h1
        subst htg
        obtain ⟨tc0, tc1⟩ := htc
        obtain ⟨fb, fo, hfa, hfb, hfc⟩ := (HE.out.ins.below hr.low (Nat.le_refl _)).at hkn
        have hfi := Sim.inst_eq hkn
        have hpx := HBX.out.below hr.low HBL.out
        have HLW2 := hid hr.low
        rw [hfi] at HST
        clear hr ht hfi
        generalize T[q] = t at *
        obtain ⟨k, fr⟩ := t
        simp only at hfc tc0 tc1 hkn HST
        generalize m.L[k] = ff at *
        obtain ⟨fop, fset, fx, fy⟩ := ff
        have HF2 := hid (show CellsAt wr fb (fo + k * 7) [.int .i64 fop, .int .u64 fset.a, .int .u64 fset.b, .int .u64 fset.c, .int .u64 fset.d, .int .i64 fx, .int .i64 fy] from hfc)
        have HPX := hid hpx
        clear hfc hpx
        subst hfa
        have hkI : (k : Int) < (m.L.length : Int) := by omega
        have hqI : (q : Int) < (T.length : Int) := by omega
        have HG : Hid (Below wr.heap.size wr (wr.alloc (.cells #[.int .i64 k, .int .i64 fr] 96)) ∧ Row (wr.alloc (.cells #[.int .i64 k, .int .i64 fr] 96)) wr.heap.size [.int .i64 k, .int .i64 fr] 96) := ⟨Grow.alloc wr _, Row.at wr [.int .i64 k, .int .i64 fr] _⟩
        have HS3 := hid (HS2.out.more HG.out.1)
        have qb : (wr.alloc (.cells #[.int .i64 k, .int .i64 fr] 96)).cell? ⟨b0, 0, none⟩ = some (.slice (some ⟨fb, fo, none⟩) m.L.length c) := (HPX.out.below HG.out.1 HPX.out.lt).cell 0
        have hfbz : fb < wr.heap.size := hfb
        have qf := cells7 (show CellsAt (wr.alloc (.cells #[.int .i64 k, .int .i64 fr] 96)) fb (fo + k * 7) [.int .i64 fop, .int .u64 fset.a, .int .u64 fset.b, .int .u64 fset.c, .int .u64 fset.d, .int .i64 fx, .int .i64 fy] from fun j v hj => by
          rw [HG.out.1.cell (p := ⟨fb, fo + k * 7 + j, none⟩) hfbz]
          exact HF2.out j v hj)
        have qk : (wr.alloc (.cells #[.int .i64 k, .int .i64 fr] 96)).cell? ⟨wr.heap.size, 0, none⟩ = some (.int .i64 k) := HG.out.2.cell 0
        have qf0 := qf.1
        clear qf
        go_upto_region 12 with fail
        clear tc0 tc1
        generalize wr.alloc (.cells #[.int .i64 k, .int .i64 fr] 96) = y at *
        generalize wr.heap.size = bt at *
        simp only at HST
        by_cases hop : fop = 6
        · have HBN : Hid (some i = if some6 m (T.take (q + 1)) = true then some i else b) := by show _ = _; rw [HST.out, if_pos hop]
          subst hop
          go_wp2_with fail
          case roundEnd =>
            refine ⟨⟨q + 1, some i, hlt, rfl, rfl, rfl, HBN.out, HS3.out⟩, ?_⟩
            show T.length - ((q : Int) + 1).toNat < T.length - (q : Int).toNat
            omega
        · have HBN : Hid (bq = if some6 m (T.take (q + 1)) = true then some i else b) := by show _ = _; rw [HST.out, if_neg hop]
          have d6 : (fop == 6) = false := by simpa using hop
          go_wp2_with fail
          case roundEnd =>
            refine ⟨⟨q + 1, bq, hlt, rfl, rfl, rfl, HBN.out, HS3.out⟩, ?_⟩
            show T.length - ((q : Int) + 1).toNat < T.length - (q : Int).toNat
            omega
      · obtain rfl : q = T.length := by omega
        rw [List.take_length] at HBQ
        obtain ⟨mk, sv, St, hr, ht, -, -⟩ := id HS2.out
        have HT := hid ht
        have HLR := hid hr.low
        have HLG : Hid (Long m f (i + 1) bq) := by
          show Long _ _ _ _
          rw [HBQ.out]
          exact HLW.out.chkT hfi ht
        clear hr ht
        rcases Nat.lt_or_ge i str.size with his | his
        case inr =>
          obtain rfl : i = str.size := by omega
          go_wp2_with fail
          all_goals (try go_ret)
          all_goals exact HPY.out _ f bq (HB0.out.trans (HLR.out.mono HB0.out.size)) HRI.out rfl hfs HLG.out
        have hisI : ¬ (i : Int) = (str.size : Int) := by omega
        have dis : ((i : Int) == (str.size : Int)) = false := by simp; omega
        rcases Nat.eq_zero_or_pos T.length with hT0 | hT0
        · have hT : T = [] := List.length_eq_zero_iff.1 hT0
          subst hT
          have eb : bq = b := by rw [HBQ.out]; rfl
          subst eb
          have HLE := hid (HLW.out.stop hfi HT.out (show i ≤ str.size + 1 by omega))
          go_wp2_with fail
          all_goals (try go_ret)
          all_goals exact HPY.out _ f bq (HB0.out.trans (HLR.out.mono HB0.out.size)) HRI.out rfl hfs HLE.out
        have dT : ((T.length : Int) == 0) = false := beq_eq_false_iff_ne.2 (by omega)
        have hNX := sgl_next w1 w2 wr m M a c str f i ((i : Int) - f + 1) (.slice la T.length lc) T HE.out HS2.out hfi his (by omega)
        have HNX := hid hNX
        clear hNX
        go_wp2_with fail
        refine HNX.out.mono ?_
        rintro e w5 ⟨lv5, T5, rfl, hsg5⟩
        obtain ⟨la5, lc5, hla5⟩ : ∃ la lc, lv5 = .slice la T5.length lc := by
          obtain ⟨mk, sv, St, h1, -⟩ := id hsg5
          exact ownsRow_shape h1.lst
        subst hla5
        rw [show (i : Int) - f + 1 + 1 = ((i + 1 : Nat) : Int) - f + 1 by omega] at hsg5
        have HSG5 := hid hsg5
        clear hsg5 HNX
        go_wp2_with fail
        all_goals
          refine ⟨⟨i + 1, la5, lc5, T5, bq, his, by omega, rfl, rfl, rfl, rfl, HSG5.out, HLG.out⟩, ?_⟩
          show str.size + 1 - ((i : Int) + 1).toNat < str.size + 1 - (i : Int).toNat
          omega
end Go.Proofs.Ythnpbopnpdlmnaa

/- The program's Search. -/
namespace Go.Proofs.Ythnpbopnpdlmnaa
open Go.RowKit
attribute [local go_sem] gives givesUpon

theorem results_cell_row_tmp {P : Program} {fn : Func} {p u : Tmp} {ty : TypeId} (h : fn.results = #[.cell p ty, .tmp u]) (tmps : Array Value) (w : World) (g : Nat) (t : TypeId) (cs : Array Value) (fr : Nat × Nat) (d : TypeDesc)
    (hp : tmps.getD p undef = .pointer (some ⟨g, 0, none⟩)) (hg : w.heap[g]? = some (.cells cs t fr))
    (hu : P.underlying ty = some d) (hd : (match d with | .struct _ | .array _ _ => true | _ => false) = true) (hi : (P.info? ty).map (·.size) = some cs.size) :
    (results fn tmps).run P w = .ok (.tuple #[.agg cs, tmps.getD u undef]) w := by
  rw [_root_.Go.results_cell_tmp h, hp]
  simp [asAddr, run_loadVar_row w g t ty cs fr d hg hu hd hi, Result.andThen]
def spanV (b : Option (Nat × Nat)) : List Value := [.int .i64 (b.getD (0, 0)).1, .int .i64 (b.getD (0, 0)).2]
def SrPost (m : Sim) (w : World) (at_ : Int) (e : Ending) (w' : World) : Prop :=
  Below w.heap.size w w' ∧ (((¬ rightAll m.L ∨ at_ < 0 ∨ (m.s.length : Int) < at_) ∧ e = .returned (.tuple #[.agg (spanV none).toArray, .bool false])) ∨
    (rightAll m.L ∧ ∃ (f : Nat) (b : Option (Nat × Nat)), at_ = f ∧ f ≤ m.s.length ∧ Best m f (m.s.length + 1) b ∧ e = .returned (.tuple #[.agg (spanV b).toArray, .bool b.isSome])))
set_option maxRecDepth 100000 in
set_option maxHeartbeats 16000000 in
theorem Search_any (w : World) (m : Sim) (a : Option Addr) (c : Nat) (str : ByteArray) (at_ : Int) (h : Pre w m a str) :
    Calls Try.prog 23 #[.agg #[.slice a m.L.length c, .bool m.lines], .string str, .int .i64 at_] w (SrPost m w at_) := by
  have hsz := size_eq h.s
  have HPN : Hid (∀ w', Below w.heap.size w w' → (¬ rightAll m.L ∨ at_ < 0 ∨ (str.size : Int) < at_) → SrPost m w at_ (.returned (.tuple #[.agg (spanV none).toArray, .bool false])) w') := fun w' h1 h2 => ⟨h1, .inl ⟨by rw [hsz]; exact h2, rfl⟩⟩
  have HPY : Hid (∀ w' (f : Nat) (b : Option (Nat × Nat)), Below w.heap.size w w' → rightAll m.L → at_ = f → f ≤ str.size → Best m f (str.size + 1) b → SrPost m w at_ (.returned (.tuple #[.agg (spanV b).toArray, .bool b.isSome])) w') := fun w' f b h1 h2 h3 h4 h5 => ⟨h1, .inr ⟨h2, f, b, h3, by rw [hsz]; exact h4, by rw [hsz]; exact h5, rfl⟩⟩
  clear hsz
  generalize SrPost m w at_ = PP at *
  have hshort := h.short
  have hfew := h.few
  have HB0 : Hid (Below w.heap.size w ((w.alloc (.cells #[.slice a m.L.length c, .bool m.lines] 59)).alloc (.cells #[.int .i64 0, .int .i64 0] 47))) := (Grow.alloc w _).trans (Grow.alloc _ _)
  have HRC : Hid (Row ((w.alloc (.cells #[.slice a m.L.length c, .bool m.lines] 59)).alloc (.cells #[.int .i64 0, .int .i64 0] 47)) (w.heap.size + 1) [.int .i64 0, .int .i64 0] 47) := Row.new (by simp)
  have HBX : Hid (Row ((w.alloc (.cells #[.slice a m.L.length c, .bool m.lines] 59)).alloc (.cells #[.int .i64 0, .int .i64 0] 47)) w.heap.size [.slice a m.L.length c, .bool m.lines] 59) := (Row.at w [.slice a m.L.length c, .bool m.lines] _).below (Grow.alloc _ _) (by simp)
  have HPR := hid (h.below HB0.out)
  clear h
  have HS := hid (simulate_any ((w.alloc (.cells #[.slice a m.L.length c, .bool m.lines] 59)).alloc (.cells #[.int .i64 0, .int .i64 0] 47)) m a c str HPR.out.ins HPR.out.few)
  go_enter Try.func23, Try.ntmps23
  go_wp2_with fail
  go_step3
  generalize (w.alloc (.cells #[.slice a m.L.length c, .bool m.lines] 59)).alloc (.cells #[.int .i64 0, .int .i64 0] 47) = w1 at *
  have q : w1.cell? ⟨w.heap.size, 0, none⟩ = some (.slice a m.L.length c) ∧ w1.cell? ⟨w.heap.size, 1, none⟩ = some (.bool m.lines) := ⟨HBX.out.cell 0, HBX.out.cell 1⟩
  have HBL : Hid (w.heap.size < w1.heap.size) := HBX.out.lt
  have HRL : Hid (w.heap.size + 1 < w1.heap.size) := HRC.out.lt
  have HRN : Hid (w.heap.size ≤ w.heap.size + 1) := Nat.le_succ _
  generalize w.heap.size + 1 = rc at HRC HRL HRN
  go_wp2_with fail
  refine HS.out.mono ?_
  rintro e w2 (⟨hnr, rfl, hb2⟩ | ⟨hr, M, rfl, hr2, hb2⟩)
  · have HB2 := hid (HB0.out.trans (hb2.mono HB0.out.size))
    have HNR := hid hnr
    have HRC2 := hid (HRC.out.below hb2 HRL.out)
    have qr : w2.cell? ⟨rc, 0, none⟩ = some (.int .i64 0) ∧ w2.cell? ⟨rc, 1, none⟩ = some (.int .i64 0) := ⟨HRC2.out.cell 0, HRC2.out.cell 1⟩
    have fr := HRC2.out.free
    clear hb2 hnr
    go_wp2_with fail
    rw [Exit.noGoto_ret]
    refine bodyPost_ret (results_cell_row_tmp rfl _ _ rc _ _ _ _ rfl (show _ = some (Obj.cells (List.toArray _) _) from (HRC2.out.set 0 _).set 1 _) Try.underlying47 rfl (by kernel_rfl)) rfl ?_
    exact HPN.out _ ((HB2.out.setCell HRN.out _).setCell HRN.out _) (.inl HNR.out)
  have HB2 := hid (HB0.out.trans (hb2.mono HB0.out.size))
  have HR2 := hid hr2
  have HRI := hid hr
  have HE := hid (HPR.out.env hr)
  have HRC2 := hid (HRC.out.below hb2 HRL.out)
  have HW12 : Hid (w1.heap.size ≤ w2.heap.size) := hb2.size
  clear hb2 hr2 hr
  rcases Int.lt_or_le at_ 0 with h0 | h0
  · have qr : w2.cell? ⟨rc, 0, none⟩ = some (.int .i64 0) ∧ w2.cell? ⟨rc, 1, none⟩ = some (.int .i64 0) := ⟨HRC2.out.cell 0, HRC2.out.cell 1⟩
    have fr := HRC2.out.free
    go_wp2_with fail
    rw [Exit.noGoto_ret]
    refine bodyPost_ret (results_cell_row_tmp rfl _ _ rc _ _ _ _ rfl (show _ = some (Obj.cells (List.toArray _) _) from (HRC2.out.set 0 _).set 1 _) Try.underlying47 rfl (by kernel_rfl)) rfl ?_
    exact HPN.out _ ((HB2.out.setCell HRN.out _).setCell HRN.out _) (.inr (.inl h0))
  rcases Int.lt_or_le (str.size : Int) at_ with h1 | h1
  · have qr : w2.cell? ⟨rc, 0, none⟩ = some (.int .i64 0) ∧ w2.cell? ⟨rc, 1, none⟩ = some (.int .i64 0) := ⟨HRC2.out.cell 0, HRC2.out.cell 1⟩
    have fr := HRC2.out.free
    go_wp2_with fail
    rw [Exit.noGoto_ret]
    refine bodyPost_ret (results_cell_row_tmp rfl _ _ rc _ _ _ _ rfl (show _ = some (Obj.cells (List.toArray _) _) from (HRC2.out.set 0 _).set 1 _) Try.underlying47 rfl (by kernel_rfl)) rfl ?_
    exact HPN.out _ ((HB2.out.setCell HRN.out _).setCell HRN.out _) (.inr (.inr h1))
  obtain ⟨f, rfl⟩ := Int.eq_ofNat_of_zero_le h0
  have hfs : f ≤ str.size := by omega
  have dfs : decide (str.size < f) = false := by simp; omega
  have HG : Hid (Below w2.heap.size w2 ((w2.alloc (.cells #[.int .i64 0, .int .i64 0] 47)).alloc (.cells #[.bool false] 4)) ∧ BestAt ((w2.alloc (.cells #[.int .i64 0, .int .i64 0] 47)).alloc (.cells #[.bool false] 4)) (w2.heap.size + 1) w2.heap.size none) := ⟨(Grow.alloc w2 _).trans (Grow.alloc _ _), Row.new (by simp), (Row.at w2 [.int .i64 0, .int .i64 0] _).below (Grow.alloc _ _) (by simp)⟩
  clear q
  go_upto_region 7 with fail
  generalize (w2.alloc (.cells #[.int .i64 0, .int .i64 0] 47)).alloc (.cells #[.bool false] 4) = y at *
  have HR3 := hid (HR2.out.more HG.out.1)
  have HNE : Hid (w2.heap.size + 1 ≠ M ∧ w2.heap.size ≠ M) := by
    have := HR2.out.sim.lt
    exact ⟨by omega, by omega⟩
  obtain ⟨fp, hfp⟩ : ∃ n, w2.heap.size + 1 = n := ⟨_, rfl⟩
  obtain ⟨bp, hbp⟩ : ∃ n, w2.heap.size = n := ⟨_, rfl⟩
  have HLOC : Hid (w1.heap.size ≤ w2.heap.size ∧ w2.heap.size ≤ fp ∧ w2.heap.size ≤ bp) := by
    have := HW12.out
    exact ⟨this, by omega, by omega⟩
  rw [hfp, hbp] at HG HNE
  simp only [hfp]
  simp only [hbp]
  clear hfp hbp
  have q2 := HR3.out.sim.cells
  have z2 := HR3.out.sim.lt
  have f2 := HR3.out.sim.free
  have HR4 := hid (HR3.out.step 1)
  have HAT := hid (HG.out.2.set HNE.out.1 HNE.out.2 4099 (.int .i64 1))
  have HM := hid (mny_new (lo := f) HR4.out)
  have HBS : Hid (Best m f f none) := fun g j h1 h2 h3 => absurd h3 (by omega)
  clear HR4 HR3 HR2 HG HNE HRC2
  go_wp2_with fail
  go_step3
  go_wp2_with fail
  generalize y.setCell ⟨M, 4099, none⟩ (.int .i64 1) = w3 at *
  clear q2 z2 f2
  go_loopw [11, 12] (fun vl vi wr => ∃ (i : Nat) (la : Option Addr) (lc : Nat) (T : List (Nat × Nat)) (b : Option (Nat × Nat)), i ≤ str.size ∧ f ≤ i ∧ vi = .int .i64 i ∧ vl = .slice la T.length lc ∧ Hid (Mny w1 w2 m M a c str f i b ((i : Int) - f + 1) (.slice la T.length lc) T wr) ∧ Hid (BestAt wr fp bp b) ∧ Hid (Best m f i b)) (fun _ vi _ => str.size + 1 - (intOf vi).toNat)
  case atStart =>
    refine ⟨f, none, 0, [], none, hfs, Nat.le_refl _, rfl, rfl, ?_, HAT.out, HBS.out⟩
    rw [show (f : Int) - f + 1 = 1 by omega]
    exact HM.out
  case round =>
    obtain ⟨i, la, lc, T, b, hi, hfi, rfl, rfl, HM, HAT, HB⟩ := hrel
    (try simp only [dfs])
    go_step
    go_step
    go_step
    go_step
    go_cut [11] from 39 to 92 (fun vl wx => ∃ (la' : Option Addr) (lc' : Nat) (T' : List (Nat × Nat)), vl = .slice la' T'.length lc' ∧ Hid (Mnz w1 w2 m M a c str f i b ((i : Int) - f + 1) (.slice la' T'.length lc') T' wx) ∧ Hid (BestAt wx fp bp b))
    case first =>
      match b, HM, HAT, HB with
      | none, HM, HAT, HB =>
        have qf : wr.cell? ⟨fp, 0, none⟩ = some (.bool false) := HAT.out.f.c1.1
        have HRE := hid (mny_reach w1 w2 wr m M a c str f i ((i : Int) - f + 1) (.slice la T.length lc) T HE.out HM.out HAT.out hfi hi)
        go_wp2_with fail
        refine HRE.out.mono ?_
        rintro e w5 ⟨lv5, T5, rfl, hz5, ha5⟩
        obtain ⟨la5, lc5, hla5⟩ : ∃ la lc, lv5 = .slice la T5.length lc := by
          obtain ⟨mk, sv, St, h1, -⟩ := id hz5
          exact ownsRow_shape h1.lst
        subst hla5
        have HZ5 := hid hz5
        have HA5 := hid ha5
        clear hz5 ha5 HRE qf
        go_wp2_with fail
        go_meet
        exact ⟨la5, lc5, T5, rfl, HZ5.out, HA5.out⟩
      | some (F, E), HM, HAT, HB =>
        have qf : wr.cell? ⟨fp, 0, none⟩ = some (.bool true) := HAT.out.f.c1.1
        go_wp2_with fail
        go_meet
        exact ⟨la, lc, T, rfl, HM.out.found HB.out, HAT.out⟩
    case rest =>
      obtain ⟨la2, lc2, T2, rfl, hZ, hA⟩ := hcut
      have HZ := hid hZ
      have HA := hid hA
      clear hZ hA HM HAT
      go_wp2_with fail
      go_loopw [50] (fun ix wy => ∃ q : Nat, q ≤ T2.length ∧ ix = .int .i64 q ∧ Hid (Mnz w1 w2 m M a c str f i b ((i : Int) - f + 1) (.slice la2 T2.length lc2) T2 wy) ∧ Hid (BestAt wy fp bp (chkT m i (T2.take q) b))) (fun ix _ => T2.length - (intOf ix).toNat)
      case atStart => exact ⟨0, by omega, rfl, HZ.out, HA.out⟩
      case round =>
        obtain ⟨q, hq, rfl, HZ2, HA2⟩ := hrel
        have hTl : T2.length ≤ 4096 := by
          obtain ⟨_, _, _, _, _, _, h⟩ := HZ2.out
          omega
        rcases Nat.lt_or_ge q T2.length with hlt | hge
        · have HST : Hid (chkT m i (T2.take (q + 1)) b = chkT m i [T2[q]] (chkT m i (T2.take q) b)) := by
            show _ = _
            rw [List.take_add_one, List.getElem?_eq_getElem hlt]
            exact chkT_snoc m i T2[q] (T2.take q) b
          have HST2 : Hid (∀ bq, chkT m i [T2[q]] bq = if (m.inst T2[q].1).op = 6 then chkT1 i T2[q].2 bq else bq) := fun bq => rfl
          obtain ⟨mk, sv, St, hr, ht, -, -⟩ := id HZ2.out
          have hkn : T2[q].1 < m.L.length := ht.lt HE.out.right (List.getElem_mem hlt)
          obtain ⟨tg, htg, htz, htc⟩ : ∃ g, la2 = some ⟨g, 0, none⟩ ∧ g < wr.heap.size ∧ (wr.cell? ⟨g, q * 2, none⟩ = some (.int .i64 (T2[q].1 : Nat)) ∧ wr.cell? ⟨g, q * 2 + 1, none⟩ = some (.int .i64 (T2[q].2 : Nat))) := by
            obtain ⟨-, h2⟩ := id hr.lst
            rcases h2 with ⟨-, h2⟩ | ⟨g, cap, cur, hv, -⟩
            · omega
            · injection hv with e1
              subst e1
              refine ⟨g, rfl, (hr.lst.lt g rfl).2, ?_, ?_⟩
              · have h1 := World.ownsRow.cells hr.lst (g := g) rfl (q * 2) (.int .i64 (T2[q].1 : Nat)) (by have h0 := flatT_get T2 q 0 hlt (by omega); rw [Nat.add_zero] at h0; rw [h0]; rfl)
                rw [Addr.add_lit, Nat.zero_add] at h1
                exact h1
              · have h1 := World.ownsRow.cells hr.lst (g := g) rfl (q * 2 + 1) (.int .i64 (T2[q].2 : Nat)) (by rw [flatT_get T2 q 1 hlt (by omega)]; rfl)
                rw [Addr.add_lit, Nat.zero_add] at h1
                exact h1
          subst htg
          obtain ⟨tc0, tc1⟩ := htc
          obtain ⟨fb, fo, hfa, hfb, hfc⟩ := (HE.out.ins.below hr.low (Nat.le_refl _)).at hkn
          have hfi := Sim.inst_eq hkn
          have hpx := HBX.out.below hr.low HBL.out
          have HLW2 := hid hr.low
          rw [hfi] at HST2
          clear hr ht hfi
          generalize T2[q] = t at *
          obtain ⟨k, fr⟩ := t
          simp only at hfc tc0 tc1 hkn HST HST2
          generalize m.L[k] = ff at *
          obtain ⟨fop, fset, fx, fy⟩ := ff
          have HF2 := hid (show CellsAt wr fb (fo + k * 7) [.int .i64 fop, .int .u64 fset.a, .int .u64 fset.b, .int .u64 fset.c, .int .u64 fset.d, .int .i64 fx, .int .i64 fy] from hfc)
          have HPX := hid hpx
          clear hfc hpx
          subst hfa
          have hkI : (k : Int) < (m.L.length : Int) := by omega
          have hqI : (q : Int) < (T2.length : Int) := by omega
          have HG : Hid (Below wr.heap.size wr (wr.alloc (.cells #[.int .i64 k, .int .i64 fr] 96)) ∧ Row (wr.alloc (.cells #[.int .i64 k, .int .i64 fr] 96)) wr.heap.size [.int .i64 k, .int .i64 fr] 96) := ⟨Grow.alloc wr _, Row.at wr [.int .i64 k, .int .i64 fr] _⟩

          have HZ3 := hid (HZ2.out.more HG.out.1)
          have HA3 := hid (HA2.out.below HG.out.1)
          have qb : (wr.alloc (.cells #[.int .i64 k, .int .i64 fr] 96)).cell? ⟨w.heap.size, 0, none⟩ = some (.slice (some ⟨fb, fo, none⟩) m.L.length c) := (HPX.out.below HG.out.1 HPX.out.lt).cell 0
          have qf0 := (cells7 (show CellsAt (wr.alloc (.cells #[.int .i64 k, .int .i64 fr] 96)) fb (fo + k * 7) [.int .i64 fop, .int .u64 fset.a, .int .u64 fset.b, .int .u64 fset.c, .int .u64 fset.d, .int .i64 fx, .int .i64 fy] from fun j v hj => by
            rw [HG.out.1.cell (p := ⟨fb, fo + k * 7 + j, none⟩) hfb]
            exact HF2.out j v hj)).1
          have qk : (wr.alloc (.cells #[.int .i64 k, .int .i64 fr] 96)).cell? ⟨wr.heap.size, 0, none⟩ = some (.int .i64 k) ∧ (wr.alloc (.cells #[.int .i64 k, .int .i64 fr] 96)).cell? ⟨wr.heap.size, 1, none⟩ = some (.int .i64 fr) := ⟨HG.out.2.cell 0, HG.out.2.cell 1⟩
          simp only at HST HST2
          generalize chkT m i (T2.take q) b = bq at *
          go_upto_region 15 with fail
          clear tc0 tc1
          generalize wr.alloc (.cells #[.int .i64 k, .int .i64 fr] 96) = y at *
          generalize wr.heap.size = bt at *
          by_cases hop : fop = 6
          case neg =>
            have HBN : Hid (bq = chkT m i (T2.take (q + 1)) b) := by show _ = _; rw [HST.out, HST2.out, if_neg hop]
            have d6 : (fop == 6) = false := by simpa using hop
            go_wp2_with fail
            case roundEnd =>
              refine ⟨⟨q + 1, hlt, rfl, HZ3.out, ?_⟩, ?_⟩
              · rw [← HBN.out]; exact HA3.out
              · show T2.length - ((q : Int) + 1).toNat < T2.length - (q : Int).toNat
                omega
          subst hop
          have hzf := HA3.out.f.free 0
          have hzb := HA3.out.b.free
          have hne : ¬ fp = bp := HA3.out.f.ne HA3.out.b (by decide)
          have hne2 : ¬ bp = fp := fun e => hne e.symm
          have hlf := HA3.out.f.lt
          have hlb := HA3.out.b.lt
          match bq, HA2, HST, HST2, HA3 with
          | none, HA2, HST, HST2, HA3 =>
            have HBN : Hid (some (fr, i) = chkT m i (T2.take (q + 1)) b) := by show _ = _; rw [HST.out, HST2.out]; rfl
            have HZN := hid (mnz_found (F := fr) (E := i) HZ3.out HA3.out HLOC.out)
            have q1 : y.cell? ⟨fp, 0, none⟩ = some (.bool false) := HA3.out.f.c1.1
            have q2 : y.cell? ⟨bp, 0, none⟩ = some (.int .i64 0) ∧ y.cell? ⟨bp, 1, none⟩ = some (.int .i64 0) := ⟨HA3.out.b.cell 0, HA3.out.b.cell 1⟩
            go_wp2_with fail
            case roundEnd =>
              refine ⟨⟨q + 1, hlt, rfl, HZN.out.1, ?_⟩, ?_⟩
              · rw [← HBN.out]; exact HZN.out.2
              · show T2.length - ((q : Int) + 1).toNat < T2.length - (q : Int).toNat
                omega
          | some (F, E), HA2, HST, HST2, HA3 =>
            have q1 : y.cell? ⟨fp, 0, none⟩ = some (.bool true) := HA3.out.f.c1.1
            have q2 : y.cell? ⟨bp, 0, none⟩ = some (.int .i64 F) ∧ y.cell? ⟨bp, 1, none⟩ = some (.int .i64 E) := ⟨HA3.out.b.cell 0, HA3.out.b.cell 1⟩
            by_cases hle : fr ≤ F
            · have HBN : Hid (some (fr, i) = chkT m i (T2.take (q + 1)) b) := by show _ = _; rw [HST.out, HST2.out, if_pos rfl]; exact (if_pos hle).symm
              have HZN := hid (mnz_found (F := fr) (E := i) HZ3.out HA3.out HLOC.out)
              have hle2 : (fr : Int) ≤ F := by omega
              go_wp2_with fail
              case roundEnd =>
                refine ⟨⟨q + 1, hlt, rfl, HZN.out.1, ?_⟩, ?_⟩
                · rw [← HBN.out]; exact HZN.out.2
                · show T2.length - ((q : Int) + 1).toNat < T2.length - (q : Int).toNat
                  omega
            · have HBN : Hid (some (F, E) = chkT m i (T2.take (q + 1)) b) := by show _ = _; rw [HST.out, HST2.out, if_pos rfl]; exact (if_neg hle).symm
              have hle2 : ¬ (fr : Int) ≤ F := by omega
              go_wp2_with fail
              case roundEnd =>
                refine ⟨⟨q + 1, hlt, rfl, HZ3.out, ?_⟩, ?_⟩
                · rw [← HBN.out]; exact HA3.out
                · show T2.length - ((q : Int) + 1).toNat < T2.length - (q : Int).toNat
                  omega
        · obtain rfl : q = T2.length := by omega
          rw [List.take_length] at HA2
          obtain ⟨mk, sv, St, hr, ht, -, -⟩ := id HZ2.out
          have hbc := HB.out.chkT ht
          have HBC := hid hbc.1
          have HLV := hid hbc.2
          have HLR := hid hr.low
          have HRC3 := hid (HRC.out.below hr.low HRL.out)
          clear hbc hr ht
          generalize chkT m i T2 b = b' at *
          rcases Nat.lt_or_ge i str.size with his | his
          case inr =>
            obtain rfl : i = str.size := by omega
            go_upto_region 21 with fail
            have hrcM : Row wr rc [.int .i64 0, .int .i64 0] 47 := HRC3.out
            have qr : wr.cell? ⟨rc, 0, none⟩ = some (.int .i64 0) ∧ wr.cell? ⟨rc, 1, none⟩ = some (.int .i64 0) := ⟨hrcM.cell 0, hrcM.cell 1⟩
            have fr := hrcM.free
            have qf2 : wr.cell? ⟨fp, 0, none⟩ = some (.bool b'.isSome) := HA2.out.f.c1.1
            have qb2 : wr.cell? ⟨bp, 0, none⟩ = some (.int .i64 (b'.getD (0, 0)).1) ∧ wr.cell? ⟨bp, 1, none⟩ = some (.int .i64 (b'.getD (0, 0)).2) := ⟨HA2.out.b.cell 0, HA2.out.b.cell 1⟩
            have hnr : ¬ fp = rc ∧ ¬ rc = fp ∧ ¬ bp = rc ∧ ¬ rc = bp := by
              have h1 := HRL.out
              have h2 := HLOC.out
              omega
            go_region
            all_goals go_wp2_with fail
            all_goals (try rw [Exit.noGoto_ret])
            all_goals
              refine bodyPost_ret (results_cell_row_tmp rfl _ _ rc _ _ _ _ rfl (show _ = some (Obj.cells (List.toArray _) _) from (hrcM.set 0 _).set 1 _) Try.underlying47 rfl (by kernel_rfl)) rfl ?_
              have hbz := ((HB0.out.trans (HLR.out.mono HB0.out.size)).setCell (p := ⟨rc, 0, none⟩) HRN.out (.int .i64 (b'.getD (0, 0)).1)).setCell (p := ⟨rc, 1, none⟩) HRN.out (.int .i64 (b'.getD (0, 0)).2)
              exact HPY.out _ f b' ⟨hbz.os, hbz.tape, hbz.output, hbz.size, hbz.block⟩ HRI.out rfl hfs HBC.out
          have dis : ((i : Int) == (str.size : Int)) = false := beq_eq_false_iff_ne.2 (by omega)
          have HNX := hid (mny_next w1 w2 wr m M a c str f i b b' ((i : Int) - f + 1) (.slice la2 T2.length lc2) T2 fp bp HE.out HZ2.out HLV.out HBC.out HA2.out his (by omega))
          go_wp2_with fail
          refine HNX.out.mono ?_
          rintro e w5 ⟨lv5, T5, rfl, hm5, ha5⟩
          obtain ⟨la5, lc5, hla5⟩ : ∃ la lc, lv5 = .slice la T5.length lc := by
            obtain ⟨mk, sv, St, h1, -⟩ := id hm5
            exact ownsRow_shape h1.lst
          subst hla5
          rw [show (i : Int) - f + 1 + 1 = ((i + 1 : Nat) : Int) - f + 1 by omega] at hm5
          have HM5 := hid hm5
          have HA5 := hid ha5
          clear hm5 ha5 HNX
          match b', HM5, HA5, HBC, HLV, HA2 with
          | none, HM5, HA5, HBC, HLV, HA2 =>
            have qf : w5.cell? ⟨fp, 0, none⟩ = some (.bool false) := HA5.out.f.c1.1
            go_wp2_with fail
            all_goals
              refine ⟨⟨i + 1, la5, lc5, T5, none, his, by omega, rfl, rfl, HM5.out, HA5.out, HBC.out⟩, ?_⟩
              show str.size + 1 - ((i : Int) + 1).toNat < str.size + 1 - (i : Int).toNat
              omega
          | some (F, E), HM5, HA5, HBC, HLV, HA2 =>
            have qf : w5.cell? ⟨fp, 0, none⟩ = some (.bool true) := HA5.out.f.c1.1
            rcases Nat.eq_zero_or_pos T5.length with hT0 | hT0
            · have hT : T5 = [] := List.length_eq_zero_iff.1 hT0
              subst hT
              have HBS := hid (HBC.out.stop (by
                obtain ⟨mk, sv, St, h1, -⟩ := HM5.out.found HBC.out
                exact (HM5.out.found HBC.out).choose_spec.choose_spec.choose_spec.2.1) (show i + 1 ≤ str.size + 1 by omega))
              have HLR5 : Hid (Below w1.heap.size w1 w5) := by
                obtain ⟨mk, sv, St, h1, -⟩ := HM5.out
                exact h1.low
              go_upto_region 21 with fail
              have hrcM : Row w5 rc [.int .i64 0, .int .i64 0] 47 := (HRC.out.below HLR5.out HRL.out)
              have qr : w5.cell? ⟨rc, 0, none⟩ = some (.int .i64 0) ∧ w5.cell? ⟨rc, 1, none⟩ = some (.int .i64 0) := ⟨hrcM.cell 0, hrcM.cell 1⟩
              have fr := hrcM.free
              have qf2 : w5.cell? ⟨fp, 0, none⟩ = some (.bool true) := HA5.out.f.c1.1
              have qb2 : w5.cell? ⟨bp, 0, none⟩ = some (.int .i64 ((some (F, E)).getD (0, 0)).1) ∧ w5.cell? ⟨bp, 1, none⟩ = some (.int .i64 ((some (F, E)).getD (0, 0)).2) := ⟨HA5.out.b.cell 0, HA5.out.b.cell 1⟩
              have hnr : ¬ fp = rc ∧ ¬ rc = fp ∧ ¬ bp = rc ∧ ¬ rc = bp := by
                have h1 := HRL.out
                have h2 := HLOC.out
                omega
              go_region
              all_goals go_wp2_with fail
              all_goals (try rw [Exit.noGoto_ret])
              all_goals
                refine bodyPost_ret (results_cell_row_tmp rfl _ _ rc _ _ _ _ rfl (show _ = some (Obj.cells (List.toArray _) _) from (hrcM.set 0 _).set 1 _) Try.underlying47 rfl (by kernel_rfl)) rfl ?_
                have hbz := ((HB0.out.trans (HLR5.out.mono HB0.out.size)).setCell (p := ⟨rc, 0, none⟩) HRN.out (.int .i64 ((some (F, E)).getD (0, 0)).1)).setCell (p := ⟨rc, 1, none⟩) HRN.out (.int .i64 ((some (F, E)).getD (0, 0)).2)
                exact HPY.out _ f (some (F, E)) ⟨hbz.os, hbz.tape, hbz.output, hbz.size, hbz.block⟩ HRI.out rfl hfs HBS.out
            · have dT : ((T5.length : Int) == 0) = false := beq_eq_false_iff_ne.2 (by omega)
              go_wp2_with fail
              all_goals
                refine ⟨⟨i + 1, la5, lc5, T5, some (F, E), his, by omega, rfl, rfl, HM5.out, HA5.out, HBC.out⟩, ?_⟩
                show str.size + 1 - ((i : Int) + 1).toNat < str.size + 1 - (i : Int).toNat
                omega
end Go.Proofs.Ythnpbopnpdlmnaa
