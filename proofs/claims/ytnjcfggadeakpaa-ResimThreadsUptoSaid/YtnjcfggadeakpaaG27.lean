/- The program's Search. -/
import Derived.Test.YtnjcfggadeakpaaG26
import Derived.Laws.ResultCell
import Derived.Test.YtnjcfggadeakpaaProg
import Derived.Shelf.Sort.Plain
import Derived.Shelf.Slices.In.SortNone
namespace Go.Proofs.Ytnjcfggadeakpaa
open Go.RowKit
attribute [local go_sem] gives givesUpon

theorem results_cell_row_tmp {P : Program} {fn : Func} {p u : Tmp} {ty : TypeId} (h : fn.results = #[.cell p ty, .tmp u]) (tmps : Array Value) (w : World) (g : Nat) (t : TypeId) (cs : Array Value) (fr : Nat × Nat) (d : TypeDesc)
    (hp : tmps.getD p undef = .pointer (some ⟨g, 0, none⟩)) (hg : w.heap[g]? = some (.cells cs t fr))
    (hu : P.underlying ty = some d) (hd : (match d with | .struct _ | .array _ _ => true | _ => false) = true) (hi : (P.info? ty).map (·.size) = some cs.size) :
    (results fn tmps).run P w = .ok (.tuple #[.agg cs, tmps.getD u undef]) w := by
  rw [results_cell_tmp h, hp]
  simp [asAddr, run_loadVar_row w g t ty cs fr d hg hu hd hi, Result.andThen]
def spanV (b : Option (Nat × Nat)) : List Value := [.int .i64 (b.getD (0, 0)).1, .int .i64 (b.getD (0, 0)).2]
def SrPost (m : Sim) (w : World) (at_ : Int) (e : Ending) (w' : World) : Prop :=
  Below w.heap.size w w' ∧ (((¬ rightAll m.L ∨ at_ < 0 ∨ (m.s.length : Int) < at_) ∧ e = .returned (.tuple #[.agg (spanV none).toArray, .bool false])) ∨
    (rightAll m.L ∧ ∃ (f : Nat) (b : Option (Nat × Nat)), at_ = f ∧ f ≤ m.s.length ∧ Best m f (m.s.length + 1) b ∧ e = .returned (.tuple #[.agg (spanV b).toArray, .bool b.isSome])))
set_option maxRecDepth 100000 in
set_option maxHeartbeats 16000000 in
theorem Search_any (w : World) (m : Sim) (a : Option Addr) (c : Nat) (str : ByteArray) (at_ : Int) (h : Pre w m a str) :
    Calls Try.prog 10 #[.agg #[.slice a m.L.length c, .bool m.lines], .string str, .int .i64 at_] w (SrPost m w at_) := by
  have hsz := size_eq h.s
  have HPN : Hid (∀ w', Below w.heap.size w w' → (¬ rightAll m.L ∨ at_ < 0 ∨ (str.size : Int) < at_) → SrPost m w at_ (.returned (.tuple #[.agg (spanV none).toArray, .bool false])) w') := fun w' h1 h2 => ⟨h1, .inl ⟨by rw [hsz]; exact h2, rfl⟩⟩
  have HPY : Hid (∀ w' (f : Nat) (b : Option (Nat × Nat)), Below w.heap.size w w' → rightAll m.L → at_ = f → f ≤ str.size → Best m f (str.size + 1) b → SrPost m w at_ (.returned (.tuple #[.agg (spanV b).toArray, .bool b.isSome])) w') := fun w' f b h1 h2 h3 h4 h5 => ⟨h1, .inr ⟨h2, f, b, h3, by rw [hsz]; exact h4, by rw [hsz]; exact h5, rfl⟩⟩
  clear hsz
  generalize SrPost m w at_ = PP at *
  have hshort := h.short
  have hfew := h.few
  have HB0 : Hid (Below w.heap.size w ((w.alloc (.cells #[.slice a m.L.length c, .bool m.lines] 24)).alloc (.cells #[.int .i64 0, .int .i64 0] 28))) := (Grow.alloc w _).trans (Grow.alloc _ _)
  have HRC : Hid (Row ((w.alloc (.cells #[.slice a m.L.length c, .bool m.lines] 24)).alloc (.cells #[.int .i64 0, .int .i64 0] 28)) (w.heap.size + 1) [.int .i64 0, .int .i64 0] 28) := Row.new (by simp)
  have HBX : Hid (Row ((w.alloc (.cells #[.slice a m.L.length c, .bool m.lines] 24)).alloc (.cells #[.int .i64 0, .int .i64 0] 28)) w.heap.size [.slice a m.L.length c, .bool m.lines] 24) := (Row.at w [.slice a m.L.length c, .bool m.lines] _).below (Grow.alloc _ _) (by simp)
  have HPR := hid (h.below HB0.out)
  clear h
  have HS := hid (simulate_any ((w.alloc (.cells #[.slice a m.L.length c, .bool m.lines] 24)).alloc (.cells #[.int .i64 0, .int .i64 0] 28)) m a c str HPR.out.ins HPR.out.few)
  go_enter Try.func10, Try.ntmps10
  go_wp2_with fail
  go_step3
  generalize (w.alloc (.cells #[.slice a m.L.length c, .bool m.lines] 24)).alloc (.cells #[.int .i64 0, .int .i64 0] 28) = w1 at *
  have q : w1.cell? ⟨w.heap.size, 0, none⟩ = some (.slice a m.L.length c) ∧ w1.cell? ⟨w.heap.size, 1, none⟩ = some (.bool m.lines) := ⟨HBX.out.cell 0, HBX.out.cell 1⟩
  have HBL : Hid (w.heap.size < w1.heap.size) := HBX.out.lt
  have HRL : Hid (w.heap.size + 1 < w1.heap.size) := HRC.out.lt
  have HRN : Hid (w.heap.size ≤ w.heap.size + 1) := Nat.le_succ _
  generalize w.heap.size + 1 = rc at HRC HRL HRN
  go_wp2_with fail
  refine HS.out.mono ?_
  rintro e w2 (⟨hnr, rfl, hb2⟩ | ⟨hr, M, rfl, hr2, hb2⟩)
  · have HB2 := hid (HB0.out.trans (hb2.mono HB0.out.size))
    have HNR := hid hnr
    have HRC2 := hid (HRC.out.below hb2 HRL.out)
    have qr : w2.cell? ⟨rc, 0, none⟩ = some (.int .i64 0) ∧ w2.cell? ⟨rc, 1, none⟩ = some (.int .i64 0) := ⟨HRC2.out.cell 0, HRC2.out.cell 1⟩
    have fr := HRC2.out.free
    clear hb2 hnr
    go_wp2_with fail
    rw [Exit.noGoto_ret]
    refine bodyPost_ret (results_cell_row_tmp rfl _ _ rc _ _ _ _ rfl (show _ = some (Obj.cells (List.toArray _) _) from (HRC2.out.set 0 _).set 1 _) Try.underlying28 rfl (by kernel_rfl)) rfl ?_
    exact HPN.out _ ((HB2.out.setCell HRN.out _).setCell HRN.out _) (.inl HNR.out)
  have HB2 := hid (HB0.out.trans (hb2.mono HB0.out.size))
  have HR2 := hid hr2
  have HRI := hid hr
  have HE := hid (HPR.out.env hr)
  have HRC2 := hid (HRC.out.below hb2 HRL.out)
  have HW12 : Hid (w1.heap.size ≤ w2.heap.size) := hb2.size
  clear hb2 hr2 hr
  rcases Int.lt_or_le at_ 0 with h0 | h0
  · have qr : w2.cell? ⟨rc, 0, none⟩ = some (.int .i64 0) ∧ w2.cell? ⟨rc, 1, none⟩ = some (.int .i64 0) := ⟨HRC2.out.cell 0, HRC2.out.cell 1⟩
    have fr := HRC2.out.free
    go_wp2_with fail
    rw [Exit.noGoto_ret]
    refine bodyPost_ret (results_cell_row_tmp rfl _ _ rc _ _ _ _ rfl (show _ = some (Obj.cells (List.toArray _) _) from (HRC2.out.set 0 _).set 1 _) Try.underlying28 rfl (by kernel_rfl)) rfl ?_
    exact HPN.out _ ((HB2.out.setCell HRN.out _).setCell HRN.out _) (.inr (.inl h0))
  rcases Int.lt_or_le (str.size : Int) at_ with h1 | h1
  · have qr : w2.cell? ⟨rc, 0, none⟩ = some (.int .i64 0) ∧ w2.cell? ⟨rc, 1, none⟩ = some (.int .i64 0) := ⟨HRC2.out.cell 0, HRC2.out.cell 1⟩
    have fr := HRC2.out.free
    go_wp2_with fail
    rw [Exit.noGoto_ret]
    refine bodyPost_ret (results_cell_row_tmp rfl _ _ rc _ _ _ _ rfl (show _ = some (Obj.cells (List.toArray _) _) from (HRC2.out.set 0 _).set 1 _) Try.underlying28 rfl (by kernel_rfl)) rfl ?_
    exact HPN.out _ ((HB2.out.setCell HRN.out _).setCell HRN.out _) (.inr (.inr h1))
  obtain ⟨f, rfl⟩ := Int.eq_ofNat_of_zero_le h0
  have hfs : f ≤ str.size := by omega
  have dfs : decide (str.size < f) = false := by simp; omega
  have HG : Hid (Below w2.heap.size w2 ((w2.alloc (.cells #[.int .i64 0, .int .i64 0] 28)).alloc (.cells #[.bool false] 4)) ∧ BestAt ((w2.alloc (.cells #[.int .i64 0, .int .i64 0] 28)).alloc (.cells #[.bool false] 4)) (w2.heap.size + 1) w2.heap.size none) := ⟨(Grow.alloc w2 _).trans (Grow.alloc _ _), Row.new (by simp), (Row.at w2 [.int .i64 0, .int .i64 0] _).below (Grow.alloc _ _) (by simp)⟩
  clear q
  go_upto_region 7 with fail
  generalize (w2.alloc (.cells #[.int .i64 0, .int .i64 0] 28)).alloc (.cells #[.bool false] 4) = y at *
  have HR3 := hid (HR2.out.more HG.out.1)
  have HNE : Hid (w2.heap.size + 1 ≠ M ∧ w2.heap.size ≠ M) := by
    have := HR2.out.sim.lt
    exact ⟨by omega, by omega⟩
  obtain ⟨fp, hfp⟩ : ∃ n, w2.heap.size + 1 = n := ⟨_, rfl⟩
  obtain ⟨bp, hbp⟩ : ∃ n, w2.heap.size = n := ⟨_, rfl⟩
  have HLOC : Hid (w1.heap.size ≤ w2.heap.size ∧ w2.heap.size ≤ fp ∧ w2.heap.size ≤ bp) := by
    have := HW12.out
    exact ⟨this, by omega, by omega⟩
  rw [hfp, hbp] at HG HNE
  simp only [hfp]
  simp only [hbp]
  clear hfp hbp
  have q2 := HR3.out.sim.cells
  have z2 := HR3.out.sim.lt
  have f2 := HR3.out.sim.free
  have HR4 := hid (HR3.out.step 1)
  have HAT := hid (HG.out.2.set HNE.out.1 HNE.out.2 4099 (.int .i64 1))
  have HM := hid (mny_new (lo := f) HR4.out)
  have HBS : Hid (Best m f f none) := fun g j h1 h2 h3 => absurd h3 (by omega)
  clear HR4 HR3 HR2 HG HNE HRC2
  go_wp2_with fail
  go_step3
  go_wp2_with fail
  generalize y.setCell ⟨M, 4099, none⟩ (.int .i64 1) = w3 at *
  clear q2 z2 f2
  go_loopw [11, 12] (fun vl vi wr => ∃ (i : Nat) (la : Option Addr) (lc : Nat) (T : List (Nat × Nat)) (b : Option (Nat × Nat)), i ≤ str.size ∧ f ≤ i ∧ vi = .int .i64 i ∧ vl = .slice la T.length lc ∧ Hid (Mny w1 w2 m M a c str f i b ((i : Int) - f + 1) (.slice la T.length lc) T wr) ∧ Hid (BestAt wr fp bp b) ∧ Hid (Best m f i b)) (fun _ vi _ => str.size + 1 - (intOf vi).toNat)
  case atStart =>
    refine ⟨f, none, 0, [], none, hfs, Nat.le_refl _, rfl, rfl, ?_, HAT.out, HBS.out⟩
    rw [show (f : Int) - f + 1 = 1 by omega]
    exact HM.out
  case round =>
    obtain ⟨i, la, lc, T, b, hi, hfi, rfl, rfl, HM, HAT, HB⟩ := hrel
    (try simp only [dfs])
    go_step
    go_step
    go_step
    go_step
    go_cut [11] from 39 to 92 (fun vl wx => ∃ (la' : Option Addr) (lc' : Nat) (T' : List (Nat × Nat)), vl = .slice la' T'.length lc' ∧ Hid (Mnz w1 w2 m M a c str f i b ((i : Int) - f + 1) (.slice la' T'.length lc') T' wx) ∧ Hid (BestAt wx fp bp b))
    case first =>
      match b, HM, HAT, HB with
      | none, HM, HAT, HB =>
        have qf : wr.cell? ⟨fp, 0, none⟩ = some (.bool false) := HAT.out.f.c1.1
        have HRE := hid (mny_reach w1 w2 wr m M a c str f i ((i : Int) - f + 1) (.slice la T.length lc) T HE.out HM.out HAT.out hfi hi)
        go_wp2_with fail
        refine HRE.out.mono ?_
        rintro e w5 ⟨lv5, T5, rfl, hz5, ha5⟩
        obtain ⟨la5, lc5, hla5⟩ : ∃ la lc, lv5 = .slice la T5.length lc := by
          obtain ⟨mk, sv, St, h1, -⟩ := id hz5
          exact ownsRow_shape h1.lst
        subst hla5
        have HZ5 := hid hz5
        have HA5 := hid ha5
        clear hz5 ha5 HRE qf
        go_wp2_with fail
        go_meet
        exact ⟨la5, lc5, T5, rfl, HZ5.out, HA5.out⟩
      | some (F, E), HM, HAT, HB =>
        have qf : wr.cell? ⟨fp, 0, none⟩ = some (.bool true) := HAT.out.f.c1.1
        go_wp2_with fail
        go_meet
        exact ⟨la, lc, T, rfl, HM.out.found HB.out, HAT.out⟩
    case rest =>
      obtain ⟨la2, lc2, T2, rfl, hZ, hA⟩ := hcut
      have HZ := hid hZ
      have HA := hid hA
      clear hZ hA HM HAT
      go_wp2_with fail
      go_loopw [50] (fun ix wy => ∃ q : Nat, q ≤ T2.length ∧ ix = .int .i64 q ∧ Hid (Mnz w1 w2 m M a c str f i b ((i : Int) - f + 1) (.slice la2 T2.length lc2) T2 wy) ∧ Hid (BestAt wy fp bp (chk m i (T2.take q) b))) (fun ix _ => T2.length - (intOf ix).toNat)
      case atStart => exact ⟨0, by omega, rfl, HZ.out, HA.out⟩
      case round =>
        obtain ⟨q, hq, rfl, HZ2, HA2⟩ := hrel
        have hTl : T2.length ≤ 4096 := by
          obtain ⟨_, _, _, _, _, _, h⟩ := HZ2.out
          omega
        rcases Nat.lt_or_ge q T2.length with hlt | hge
        · have HST : Hid (chk m i (T2.take (q + 1)) b = chk m i [T2[q]] (chk m i (T2.take q) b)) := by
            show _ = _
            rw [List.take_add_one, List.getElem?_eq_getElem hlt]
            exact chk_snoc m i T2[q] (T2.take q) b
          have HST2 : Hid (∀ bq, chk m i [T2[q]] bq = if (m.inst T2[q].1).op = 6 then chk1 i T2[q].2 bq else bq) := fun bq => rfl
          obtain ⟨mk, sv, St, hr, ht, -, -⟩ := id HZ2.out
          have hkn : T2[q].1 < m.L.length := ht.lt HE.out.right (List.getElem_mem hlt)
          obtain ⟨tg, htg, htz, htc⟩ : ∃ g, la2 = some ⟨g, 0, none⟩ ∧ g < wr.heap.size ∧ (wr.cell? ⟨g, q * 2, none⟩ = some (.int .i64 (T2[q].1 : Nat)) ∧ wr.cell? ⟨g, q * 2 + 1, none⟩ = some (.int .i64 (T2[q].2 : Nat))) := by
            obtain ⟨-, h2⟩ := id hr.lst
            rcases h2 with ⟨-, h2⟩ | ⟨g, cap, cur, hv, -⟩
            · omega
            · injection hv with e1
              subst e1
              refine ⟨g, rfl, (hr.lst.lt g rfl).2, ?_, ?_⟩
              · have h1 := World.ownsRow.cells hr.lst (g := g) rfl (q * 2) (.int .i64 (T2[q].1 : Nat)) (by have h0 := flatT_get T2 q 0 hlt (by omega); rw [Nat.add_zero] at h0; rw [h0]; rfl)
                rw [Addr.add_lit, Nat.zero_add] at h1
                exact h1
              · have h1 := World.ownsRow.cells hr.lst (g := g) rfl (q * 2 + 1) (.int .i64 (T2[q].2 : Nat)) (by rw [flatT_get T2 q 1 hlt (by omega)]; rfl)
                rw [Addr.add_lit, Nat.zero_add] at h1
                exact h1
          subst htg
          obtain ⟨tc0, tc1⟩ := htc
          obtain ⟨fb, fo, hfa, hfb, hfc⟩ := (HE.out.ins.below hr.low (Nat.le_refl _)).at hkn
          have hfi := Sim.inst_eq hkn
          have hpx := HBX.out.below hr.low HBL.out
          have HLW2 := hid hr.low
          rw [hfi] at HST2
          clear hr ht hfi
          generalize T2[q] = t at *
          obtain ⟨k, fr⟩ := t
          simp only at hfc tc0 tc1 hkn HST HST2
          generalize m.L[k] = ff at *
          obtain ⟨fop, fset, fx, fy⟩ := ff
          have HF2 := hid (show CellsAt wr fb (fo + k * 7) [.int .i64 fop, .int .u64 fset.a, .int .u64 fset.b, .int .u64 fset.c, .int .u64 fset.d, .int .i64 fx, .int .i64 fy] from hfc)
          have HPX := hid hpx
          clear hfc hpx
          subst hfa
          have hkI : (k : Int) < (m.L.length : Int) := by omega
          have hqI : (q : Int) < (T2.length : Int) := by omega
          have HG : Hid (Below wr.heap.size wr (wr.alloc (.cells #[.int .i64 k, .int .i64 fr] 65)) ∧ Row (wr.alloc (.cells #[.int .i64 k, .int .i64 fr] 65)) wr.heap.size [.int .i64 k, .int .i64 fr] 65) := ⟨Grow.alloc wr _, Row.at wr [.int .i64 k, .int .i64 fr] _⟩

          have HZ3 := hid (HZ2.out.more HG.out.1)
          have HA3 := hid (HA2.out.below HG.out.1)
          have qb : (wr.alloc (.cells #[.int .i64 k, .int .i64 fr] 65)).cell? ⟨w.heap.size, 0, none⟩ = some (.slice (some ⟨fb, fo, none⟩) m.L.length c) := (HPX.out.below HG.out.1 HPX.out.lt).cell 0
          have qf0 := (cells7 (show CellsAt (wr.alloc (.cells #[.int .i64 k, .int .i64 fr] 65)) fb (fo + k * 7) [.int .i64 fop, .int .u64 fset.a, .int .u64 fset.b, .int .u64 fset.c, .int .u64 fset.d, .int .i64 fx, .int .i64 fy] from fun j v hj => by
            rw [HG.out.1.cell (p := ⟨fb, fo + k * 7 + j, none⟩) hfb]
            exact HF2.out j v hj)).1
          have qk : (wr.alloc (.cells #[.int .i64 k, .int .i64 fr] 65)).cell? ⟨wr.heap.size, 0, none⟩ = some (.int .i64 k) ∧ (wr.alloc (.cells #[.int .i64 k, .int .i64 fr] 65)).cell? ⟨wr.heap.size, 1, none⟩ = some (.int .i64 fr) := ⟨HG.out.2.cell 0, HG.out.2.cell 1⟩
          simp only at HST HST2
          generalize chk m i (T2.take q) b = bq at *
          go_upto_region 15 with fail
          clear tc0 tc1
          generalize wr.alloc (.cells #[.int .i64 k, .int .i64 fr] 65) = y at *
          generalize wr.heap.size = bt at *
          by_cases hop : fop = 6
          case neg =>
            have HBN : Hid (bq = chk m i (T2.take (q + 1)) b) := by show _ = _; rw [HST.out, HST2.out, if_neg hop]
            have d6 : (fop == 6) = false := by simpa using hop
            go_wp2_with fail
            case roundEnd =>
              refine ⟨⟨q + 1, hlt, rfl, HZ3.out, ?_⟩, ?_⟩
              · rw [← HBN.out]; exact HA3.out
              · show T2.length - ((q : Int) + 1).toNat < T2.length - (q : Int).toNat
                omega
          subst hop
          have hzf := HA3.out.f.free 0
          have hzb := HA3.out.b.free
          have hne : ¬ fp = bp := HA3.out.f.ne HA3.out.b (by decide)
          have hne2 : ¬ bp = fp := fun e => hne e.symm
          have hlf := HA3.out.f.lt
          have hlb := HA3.out.b.lt
          match bq, HA2, HST, HST2, HA3 with
          | none, HA2, HST, HST2, HA3 =>
            have HBN : Hid (some (fr, i) = chk m i (T2.take (q + 1)) b) := by show _ = _; rw [HST.out, HST2.out]; rfl
            have HZN := hid (mnz_found (F := fr) (E := i) HZ3.out HA3.out HLOC.out)
            have q1 : y.cell? ⟨fp, 0, none⟩ = some (.bool false) := HA3.out.f.c1.1
            have q2 : y.cell? ⟨bp, 0, none⟩ = some (.int .i64 0) ∧ y.cell? ⟨bp, 1, none⟩ = some (.int .i64 0) := ⟨HA3.out.b.cell 0, HA3.out.b.cell 1⟩
            go_wp2_with fail
            case roundEnd =>
              refine ⟨⟨q + 1, hlt, rfl, HZN.out.1, ?_⟩, ?_⟩
              · rw [← HBN.out]; exact HZN.out.2
              · show T2.length - ((q : Int) + 1).toNat < T2.length - (q : Int).toNat
                omega
          | some (F, E), HA2, HST, HST2, HA3 =>
            have q1 : y.cell? ⟨fp, 0, none⟩ = some (.bool true) := HA3.out.f.c1.1
            have q2 : y.cell? ⟨bp, 0, none⟩ = some (.int .i64 F) ∧ y.cell? ⟨bp, 1, none⟩ = some (.int .i64 E) := ⟨HA3.out.b.cell 0, HA3.out.b.cell 1⟩
            by_cases hle : fr ≤ F
            · have HBN : Hid (some (fr, i) = chk m i (T2.take (q + 1)) b) := by show _ = _; rw [HST.out, HST2.out, if_pos rfl]; exact (if_pos hle).symm
              have HZN := hid (mnz_found (F := fr) (E := i) HZ3.out HA3.out HLOC.out)
              have hle2 : (fr : Int) ≤ F := by omega
              go_wp2_with fail
              case roundEnd =>
                refine ⟨⟨q + 1, hlt, rfl, HZN.out.1, ?_⟩, ?_⟩
                · rw [← HBN.out]; exact HZN.out.2
                · show T2.length - ((q : Int) + 1).toNat < T2.length - (q : Int).toNat
                  omega
            · have HBN : Hid (some (F, E) = chk m i (T2.take (q + 1)) b) := by show _ = _; rw [HST.out, HST2.out, if_pos rfl]; exact (if_neg hle).symm
              have hle2 : ¬ (fr : Int) ≤ F := by omega
              go_wp2_with fail
              case roundEnd =>
                refine ⟨⟨q + 1, hlt, rfl, HZ3.out, ?_⟩, ?_⟩
                · rw [← HBN.out]; exact HA3.out
                · show T2.length - ((q : Int) + 1).toNat < T2.length - (q : Int).toNat
                  omega
        · obtain rfl : q = T2.length := by omega
          rw [List.take_length] at HA2
          obtain ⟨mk, sv, St, hr, ht, -, -⟩ := id HZ2.out
          have hbc := HB.out.chk ht
          have HBC := hid hbc.1
          have HLV := hid hbc.2
          have HLR := hid hr.low
          have HRC3 := hid (HRC.out.below hr.low HRL.out)
          clear hbc hr ht
          generalize chk m i T2 b = b' at *
          rcases Nat.lt_or_ge i str.size with his | his
          case inr =>
            obtain rfl : i = str.size := by omega
            go_upto_region 21 with fail
            have hrcM : Row wr rc [.int .i64 0, .int .i64 0] 28 := HRC3.out
            have qr : wr.cell? ⟨rc, 0, none⟩ = some (.int .i64 0) ∧ wr.cell? ⟨rc, 1, none⟩ = some (.int .i64 0) := ⟨hrcM.cell 0, hrcM.cell 1⟩
            have fr := hrcM.free
            have qf2 : wr.cell? ⟨fp, 0, none⟩ = some (.bool b'.isSome) := HA2.out.f.c1.1
            have qb2 : wr.cell? ⟨bp, 0, none⟩ = some (.int .i64 (b'.getD (0, 0)).1) ∧ wr.cell? ⟨bp, 1, none⟩ = some (.int .i64 (b'.getD (0, 0)).2) := ⟨HA2.out.b.cell 0, HA2.out.b.cell 1⟩
            have hnr : ¬ fp = rc ∧ ¬ rc = fp ∧ ¬ bp = rc ∧ ¬ rc = bp := by
              have h1 := HRL.out
              have h2 := HLOC.out
              omega
            go_region
            all_goals go_wp2_with fail
            all_goals (try rw [Exit.noGoto_ret])
            all_goals
              refine bodyPost_ret (results_cell_row_tmp rfl _ _ rc _ _ _ _ rfl (show _ = some (Obj.cells (List.toArray _) _) from (hrcM.set 0 _).set 1 _) Try.underlying28 rfl (by kernel_rfl)) rfl ?_
              have hbz := ((HB0.out.trans (HLR.out.mono HB0.out.size)).setCell (p := ⟨rc, 0, none⟩) HRN.out (.int .i64 (b'.getD (0, 0)).1)).setCell (p := ⟨rc, 1, none⟩) HRN.out (.int .i64 (b'.getD (0, 0)).2)
              exact HPY.out _ f b' ⟨hbz.os, hbz.tape, hbz.output, hbz.size, hbz.block⟩ HRI.out rfl hfs HBC.out
          have dis : ((i : Int) == (str.size : Int)) = false := beq_eq_false_iff_ne.2 (by omega)
          have HNX := hid (mny_next w1 w2 wr m M a c str f i b b' ((i : Int) - f + 1) (.slice la2 T2.length lc2) T2 fp bp HE.out HZ2.out HLV.out HBC.out HA2.out his (by omega))
          go_wp2_with fail
          refine HNX.out.mono ?_
          rintro e w5 ⟨lv5, T5, rfl, hm5, ha5⟩
          obtain ⟨la5, lc5, hla5⟩ : ∃ la lc, lv5 = .slice la T5.length lc := by
            obtain ⟨mk, sv, St, h1, -⟩ := id hm5
            exact ownsRow_shape h1.lst
          subst hla5
          rw [show (i : Int) - f + 1 + 1 = ((i + 1 : Nat) : Int) - f + 1 by omega] at hm5
          have HM5 := hid hm5
          have HA5 := hid ha5
          clear hm5 ha5 HNX
          match b', HM5, HA5, HBC, HLV, HA2 with
          | none, HM5, HA5, HBC, HLV, HA2 =>
            have qf : w5.cell? ⟨fp, 0, none⟩ = some (.bool false) := HA5.out.f.c1.1
            go_wp2_with fail
            all_goals
              refine ⟨⟨i + 1, la5, lc5, T5, none, his, by omega, rfl, rfl, HM5.out, HA5.out, HBC.out⟩, ?_⟩
              show str.size + 1 - ((i : Int) + 1).toNat < str.size + 1 - (i : Int).toNat
              omega
          | some (F, E), HM5, HA5, HBC, HLV, HA2 =>
            have qf : w5.cell? ⟨fp, 0, none⟩ = some (.bool true) := HA5.out.f.c1.1
            rcases Nat.eq_zero_or_pos T5.length with hT0 | hT0
            · have hT : T5 = [] := List.length_eq_zero_iff.1 hT0
              subst hT
              have HBS := hid (HBC.out.stop (by
                obtain ⟨mk, sv, St, h1, -⟩ := HM5.out.found HBC.out
                exact (HM5.out.found HBC.out).choose_spec.choose_spec.choose_spec.2.1) (show i + 1 ≤ str.size + 1 by omega))
              have HLR5 : Hid (Below w1.heap.size w1 w5) := by
                obtain ⟨mk, sv, St, h1, -⟩ := HM5.out
                exact h1.low
              go_upto_region 21 with fail
              have hrcM : Row w5 rc [.int .i64 0, .int .i64 0] 28 := (HRC.out.below HLR5.out HRL.out)
              have qr : w5.cell? ⟨rc, 0, none⟩ = some (.int .i64 0) ∧ w5.cell? ⟨rc, 1, none⟩ = some (.int .i64 0) := ⟨hrcM.cell 0, hrcM.cell 1⟩
              have fr := hrcM.free
              have qf2 : w5.cell? ⟨fp, 0, none⟩ = some (.bool true) := HA5.out.f.c1.1
              have qb2 : w5.cell? ⟨bp, 0, none⟩ = some (.int .i64 ((some (F, E)).getD (0, 0)).1) ∧ w5.cell? ⟨bp, 1, none⟩ = some (.int .i64 ((some (F, E)).getD (0, 0)).2) := ⟨HA5.out.b.cell 0, HA5.out.b.cell 1⟩
              have hnr : ¬ fp = rc ∧ ¬ rc = fp ∧ ¬ bp = rc ∧ ¬ rc = bp := by
                have h1 := HRL.out
                have h2 := HLOC.out
                omega
              go_region
              all_goals go_wp2_with fail
              all_goals (try rw [Exit.noGoto_ret])
              all_goals
                refine bodyPost_ret (results_cell_row_tmp rfl _ _ rc _ _ _ _ rfl (show _ = some (Obj.cells (List.toArray _) _) from (hrcM.set 0 _).set 1 _) Try.underlying28 rfl (by kernel_rfl)) rfl ?_
                have hbz := ((HB0.out.trans (HLR5.out.mono HB0.out.size)).setCell (p := ⟨rc, 0, none⟩) HRN.out (.int .i64 ((some (F, E)).getD (0, 0)).1)).setCell (p := ⟨rc, 1, none⟩) HRN.out (.int .i64 ((some (F, E)).getD (0, 0)).2)
                exact HPY.out _ f (some (F, E)) ⟨hbz.os, hbz.tape, hbz.output, hbz.size, hbz.block⟩ HRI.out rfl hfs HBS.out
            · have dT : ((T5.length : Int) == 0) = false := beq_eq_false_iff_ne.2 (by omega)
              go_wp2_with fail
              all_goals
                refine ⟨⟨i + 1, la5, lc5, T5, some (F, E), his, by omega, rfl, rfl, HM5.out, HA5.out, HBC.out⟩, ?_⟩
                show str.size + 1 - ((i : Int) + 1).toNat < str.size + 1 - (i : Int).toNat
                omega
end Go.Proofs.Ytnjcfggadeakpaa

/- The library's contracts, laid at this dump (written by the kit's lay-plain.mjs; names for numbers by laytpl.py). -/
namespace Go.Proofs
open Go.Shelf
def Try.lays189_ren : Go.Shelf.Ren := ⟨fun | 189 => 26 | 125 => 41 | 257 => 40 | 128 => 64 | 129 => 65 | 294 => 55 | 295 => 56 | 296 => 57 | 297 => 58 | 298 => 59 | 299 => 60 | 216 => 61 | 300 => 62 | 301 => 63 | 328 => 74 | 329 => 75 | 330 => 76 | 331 => 77 | 332 => 78 | 215 => 79 | 343 => 81 | n => n, fun | 28 => 35 | 3 => 3 | 46 => 83 | 0 => 0 | 51 => 102 | 53 => 38 | 4 => 4 | 183 => 95 | 182 => 94 | 131 => 44 | 5 => 5 | 9 => 9 | 218 => 108 | 222 => 112 | 228 => 115 | 229 => 116 | n => n, fun | n => n⟩
theorem Try.lays189 : Go.Proofs.Lays.n189 Try.prog Try.lays189_ren := {
  mixed := by kernel_rfl
  f125 := Try.func41.trans (congrArg some (by kernel_rfl))
  f128 := Try.func64.trans (congrArg some (by kernel_rfl))
  f129 := Try.func65.trans (congrArg some (by kernel_rfl))
  f189 := Try.func26.trans (congrArg some (by kernel_rfl))
  f215 := Try.func79.trans (congrArg some (by kernel_rfl))
  f216 := Try.func61.trans (congrArg some (by kernel_rfl))
  f257 := Try.func40.trans (congrArg some (by kernel_rfl))
  f294 := Try.func55.trans (congrArg some (by kernel_rfl))
  f295 := Try.func56.trans (congrArg some (by kernel_rfl))
  f296 := Try.func57.trans (congrArg some (by kernel_rfl))
  f297 := Try.func58.trans (congrArg some (by kernel_rfl))
  f298 := Try.func59.trans (congrArg some (by kernel_rfl))
  f299 := Try.func60.trans (congrArg some (by kernel_rfl))
  f300 := Try.func62.trans (congrArg some (by kernel_rfl))
  f301 := Try.func63.trans (congrArg some (by kernel_rfl))
  f328 := Try.func74.trans (congrArg some (by kernel_rfl))
  f329 := Try.func75.trans (congrArg some (by kernel_rfl))
  f330 := Try.func76.trans (congrArg some (by kernel_rfl))
  f331 := Try.func77.trans (congrArg some (by kernel_rfl))
  f332 := Try.func78.trans (congrArg some (by kernel_rfl))
  f343 := Try.func81.trans (congrArg some (by kernel_rfl))
  t0 := Try.underlying0
  a0 := Try.isAgg0
  z0 := Try.sizeOf0
  v0 := Try.zeroValue0
  t3 := Try.underlying3
  a3 := Try.isAgg3
  z3 := Try.sizeOf3
  v3 := Try.zeroValue3
  t4 := Try.underlying4
  a4 := Try.isAgg4
  z4 := Try.sizeOf4
  v4 := Try.zeroValue4
  t5 := Try.underlying5
  a5 := Try.isAgg5
  z5 := Try.sizeOf5
  v5 := Try.zeroValue5
  t9 := Try.underlying9
  a9 := Try.isAgg9
  z9 := Try.sizeOf9
  v9 := Try.zeroValue9
  t28 := Try.underlying35
  a28 := Try.isAgg35
  z28 := Try.sizeOf35
  v28 := Try.zeroValue35
  t46 := Try.underlying83
  a46 := Try.isAgg83
  z46 := Try.sizeOf83
  v46 := Try.zeroValue83
  t51 := Try.underlying102
  a51 := Try.isAgg102
  z51 := Try.sizeOf102
  v51 := Try.zeroValue102
  t53 := Try.underlying38
  a53 := Try.isAgg38
  z53 := Try.sizeOf38
  v53 := Try.zeroValue38
  t131 := Try.underlying44
  a131 := Try.isAgg44
  z131 := Try.sizeOf44
  v131 := Try.zeroValue44
  t182 := Try.underlying94
  a182 := Try.isAgg94
  z182 := Try.sizeOf94
  v182 := Try.zeroValue94
  t183 := Try.underlying95
  a183 := Try.isAgg95
  z183 := Try.sizeOf95
  v183 := Try.zeroValue95
  t218 := Try.underlying108
  a218 := Try.isAgg108
  z218 := Try.sizeOf108
  v218 := Try.zeroValue108
  t222 := Try.underlying112
  a222 := Try.isAgg112
  z222 := Try.sizeOf112
  v222 := Try.zeroValue112
  t228 := Try.underlying115
  a228 := Try.isAgg115
  z228 := Try.sizeOf115
  v228 := Try.zeroValue115
  t229 := Try.underlying116
  a229 := Try.isAgg116
  z229 := Try.sizeOf116
  v229 := Try.zeroValue116 }
open Go.Sort Go.RowKit in
theorem Try.slices_Sort_int (blk off cap : Nat) (zs : List Int) (w : World) (hH : Holds (Value.int .i64) w blk off zs.toArray) (hblk : blk < w.heap.size) (hsz : zs.length < 4611686018427387904) :
    Calls Try.prog 26 #[.slice (some ⟨blk, off, none⟩) zs.length cap] w fun e w' =>
      e = .returned (.tuple #[]) ∧ ∃ n os, w' = grow (putRow (Value.int .i64) (Sort.ahead w n) blk off (zs.mergeSort fun x y => decide (x ≤ y)).toArray) os := Any.slices_Sort_int Try.lays189 blk off cap zs w hH hblk hsz
open Go.RowKit Go.Sort in
/-- .. and plain. (LAID: no walk: one application.) -/
theorem Try.slices_Sort_int_none (p : Option Addr) (cap : Nat) (w : World) :
    Calls Try.prog 26 #[.slice p 0 cap] w fun e w' => e = .returned (.tuple #[]) ∧ w' = w := Any.slices_Sort_int_none Try.lays189 p cap w
end Go.Proofs
