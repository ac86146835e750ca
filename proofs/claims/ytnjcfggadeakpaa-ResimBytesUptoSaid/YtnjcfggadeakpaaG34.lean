/- The reference's Longest, Search and SameInts. -/
import Derived.Test.YtnjcfggadeakpaaG33
import Derived.Test.YtnjcfggadeakpaaG27
import Derived.Test.YtnjcfggadeakpaaRows
import Derived.Test.YtnjcfggadeakpaaG15
import Derived.WalkKit
import Derived.ProofKit
import Derived.OpenShut
import Derived.JoinedCond
import Derived.Carry
import Derived.ChangeArms
namespace Go.Proofs.Ytnjcfggadeakpaa
open Go.RowKit
attribute [local go_sem] gives givesUpon

theorem IsEn.none {m : Sim} {at_ : Int} (h : IsEn m at_ []) : (¬ rightAll m.L ∨ at_ < 0 ∨ (m.s.length : Int) < at_) ∨ (rightAll m.L ∧ ∃ f : Nat, at_ = f ∧ f ≤ m.s.length ∧ Long m f (m.s.length + 1) none) := by
  by_cases hr : rightAll m.L
  · by_cases h0 : 0 ≤ at_ ∧ at_ ≤ m.s.length
    · obtain ⟨f, rfl⟩ := Int.eq_ofNat_of_zero_le h0.1
      refine .inr ⟨hr, f, rfl, by omega, fun j h1 h2 h3 => ?_⟩
      have := (h.2 j).2 ⟨hr, by omega, by omega, by omega, h3⟩
      cases this
    · exact .inl (by omega)
  · exact .inl (.inl hr)
theorem IsEn.some {m : Sim} {at_ : Int} {es : List Nat} (h : IsEn m at_ es) (hn : es.length - 1 < es.length) : rightAll m.L ∧ ∃ f : Nat, at_ = f ∧ f ≤ m.s.length ∧ Long m f (m.s.length + 1) (some es[es.length - 1]) := by
  obtain ⟨h1, h2, h3, h4, h5⟩ := (h.2 _).1 (List.getElem_mem hn)
  obtain ⟨f, rfl⟩ := Int.eq_ofNat_of_zero_le h2
  refine ⟨h1, f, rfl, by omega, by omega, by omega, h5, fun j h6 h7 h8 => ?_⟩
  have h9 := (h.2 j).2 ⟨h1, by omega, by omega, by omega, h8⟩
  obtain ⟨q, hq, e⟩ := List.getElem_of_mem h9
  rcases Nat.lt_or_ge q (es.length - 1) with h10 | h10
  · have := List.pairwise_iff_getElem.1 h.1 q (es.length - 1) hq hn h10
    omega
  · have : q = es.length - 1 := by omega
    subst this
    omega
set_option maxRecDepth 100000 in
set_option maxHeartbeats 16000000 in
theorem LongestR_any (w : World) (m : Sim) (a : Option Addr) (c : Nat) (str : ByteArray) (at_ : Int) (h : Pre w m a str) :
    Calls Try.prog 24 #[.agg #[.slice a m.L.length c, .bool m.lines], .string str, .int .i64 at_] w (LgPost m w at_) := by
  have HPN : Hid (∀ w', Below w.heap.size w w' → IsEn m at_ [] → LgPost m w at_ (.returned (.tuple #[.int .i64 0, .bool false])) w') := by
    intro w' h1 h2
    rcases h2.none with h2 | ⟨h2, f, h3, h4, h5⟩
    · exact ⟨h1, .inl ⟨h2, rfl⟩⟩
    · exact ⟨h1, .inr ⟨h2, f, none, h3, h4, h5, rfl⟩⟩
  have HPY : Hid (∀ w' (es : List Nat) (hn : es.length - 1 < es.length), Below w.heap.size w w' → IsEn m at_ es → LgPost m w at_ (.returned (.tuple #[.int .i64 (es[es.length - 1] : Nat), .bool true])) w') := by
    intro w' es hn h1 h2
    obtain ⟨h2, f, h3, h4, h5⟩ := h2.some hn
    exact ⟨h1, .inr ⟨h2, f, _, h3, h4, h5, rfl⟩⟩
  have hshort := h.short
  generalize LgPost m w at_ = PP at *
  have HBX : Hid (Row (w.alloc (.cells #[.slice a m.L.length c, .bool m.lines] 24)) w.heap.size [.slice a m.L.length c, .bool m.lines] 24) := Row.at w [.slice a m.L.length c, .bool m.lines] _
  have HB0 : Hid (Below w.heap.size w (w.alloc (.cells #[.slice a m.L.length c, .bool m.lines] 24))) := Grow.alloc w _
  have HPR := hid (h.below HB0.out)
  clear h
  have HS := hid (EndsR_any (w.alloc (.cells #[.slice a m.L.length c, .bool m.lines] 24)) m a c str at_ HPR.out)
  go_enter Try.func24, Try.ntmps24
  go_upto_region 1 with fail
  generalize w.alloc (.cells #[.slice a m.L.length c, .bool m.lines] 24) = w1 at *
  have q : w1.cell? ⟨w.heap.size, 0, none⟩ = some (.slice a m.L.length c) ∧ w1.cell? ⟨w.heap.size, 1, none⟩ = some (.bool m.lines) := ⟨HBX.out.cell 0, HBX.out.cell 1⟩
  generalize w.heap.size = b0 at q HBX
  go_wp2_with fail
  refine HS.out.mono ?_
  rintro e w2 ⟨hb2, v, es, rfl, hes, hown⟩
  obtain ⟨a5, c5, rfl⟩ := ownsRow_shape hown
  have HB2 := hid (HB0.out.trans (hb2.mono HB0.out.size))
  have HES := hid hes
  have hesl : es.length ≤ 1000001 := by
    obtain ⟨h1, h2⟩ := hes
    rcases asc_le es (m.s.length + 1) 0 h1 (fun k hk => ⟨by omega, by have := ((h2 k).1 hk).2.2.2.1; omega⟩) with h3 | h3
    · have := size_eq HPR.out.s; omega
    · subst h3; simp
  rcases Nat.eq_zero_or_pos es.length with h0 | h0
  · have e0 := List.length_eq_zero_iff.1 h0
    subst e0
    clear hb2 hes hown q
    go_wp2_with fail
    all_goals (try go_ret)
    all_goals exact HPN.out _ HB2.out HES.out
  · have hlt : es.length - 1 < es.length := by omega
    obtain ⟨g, rfl, hg, hc⟩ := rowN_cell hown hlt
    have dn : ((es.length : Int) == 0) = false := beq_eq_false_iff_ne.2 (by omega)
    have e1 : ((es.length - 1 : Nat) : Int) = (es.length : Int) - 1 := by omega
    have HF := hid (HPY.out w2 es hlt HB2.out HES.out)
    generalize es[es.length - 1] = ev at *
    obtain ⟨n, hn⟩ : ∃ n, es.length = n + 1 := ⟨es.length - 1, by omega⟩
    rw [hn] at dn e1 hc
    have hc2 : w2.cell? ⟨g, n, none⟩ = some (.int .i64 ev) := hc
    rw [hn]
    have hnb : n ≤ 1000001 := by omega
    clear hb2 hes hown q hc e1 hn HPY
    go_wp2_with fail
    all_goals (try go_ret)
    all_goals exact HF.out
/-- No match begins before. -/
def NoHit (m : Sim) (f i : Nat) : Prop := ∀ g j, f ≤ g → g < i → g ≤ j → j < m.s.length + 1 → ¬ hit m g j
set_option maxRecDepth 100000 in
set_option maxHeartbeats 16000000 in
theorem SearchR_any (w : World) (m : Sim) (a : Option Addr) (c : Nat) (str : ByteArray) (at_ : Int) (h : Pre w m a str) :
    Calls Try.prog 11 #[.agg #[.slice a m.L.length c, .bool m.lines], .string str, .int .i64 at_] w (SrPost m w at_) := by
  have hsz := size_eq h.s
  have HPN : Hid (∀ w', Below w.heap.size w w' → (¬ rightAll m.L ∨ at_ < 0 ∨ (str.size : Int) < at_) → SrPost m w at_ (.returned (.tuple #[.agg (spanV none).toArray, .bool false])) w') := fun w' h1 h2 => ⟨h1, .inl ⟨by rw [hsz]; exact h2, rfl⟩⟩
  have HPY : Hid (∀ w' (f : Nat) (b : Option (Nat × Nat)), Below w.heap.size w w' → rightAll m.L → at_ = f → f ≤ str.size → Best m f (str.size + 1) b → SrPost m w at_ (.returned (.tuple #[.agg (spanV b).toArray, .bool b.isSome])) w') := fun w' f b h1 h2 h3 h4 h5 => ⟨h1, .inr ⟨h2, f, b, h3, by rw [hsz]; exact h4, by rw [hsz]; exact h5, rfl⟩⟩
  have HSZ := hid hsz
  clear hsz
  generalize SrPost m w at_ = PP at *
  have hshort := h.short
  have HB0 : Hid (Below w.heap.size w ((w.alloc (.cells #[.slice a m.L.length c, .bool m.lines] 24)).alloc (.cells #[.int .i64 0, .int .i64 0] 28))) := (Grow.alloc w _).trans (Grow.alloc _ _)
  have HRC : Hid (Row ((w.alloc (.cells #[.slice a m.L.length c, .bool m.lines] 24)).alloc (.cells #[.int .i64 0, .int .i64 0] 28)) (w.heap.size + 1) [.int .i64 0, .int .i64 0] 28) := Row.new (by simp)
  have HBX : Hid (Row ((w.alloc (.cells #[.slice a m.L.length c, .bool m.lines] 24)).alloc (.cells #[.int .i64 0, .int .i64 0] 28)) w.heap.size [.slice a m.L.length c, .bool m.lines] 24) := (Row.at w [.slice a m.L.length c, .bool m.lines] _).below (Grow.alloc _ _) (by simp)
  have HPR := hid (h.below HB0.out)
  clear h
  go_enter Try.func11, Try.ntmps11
  go_upto_region 1 with fail
  generalize (w.alloc (.cells #[.slice a m.L.length c, .bool m.lines] 24)).alloc (.cells #[.int .i64 0, .int .i64 0] 28) = w1 at *
  have HBL : Hid (w.heap.size < w1.heap.size) := HBX.out.lt
  have HRL : Hid (w.heap.size + 1 < w1.heap.size) := HRC.out.lt
  have HRN : Hid (w.heap.size ≤ w.heap.size + 1) := Nat.le_succ _
  generalize w.heap.size + 1 = rc at HRC HRL HRN
  go_wp2_with fail
  go_loopw [8] (fun vi wr => ∃ i : Int, at_ ≤ i ∧ vi = .int .i64 i ∧ (at_ < 0 → i = at_) ∧ (i ≤ str.size + 1 ∨ i = at_) ∧ Hid (Below w1.heap.size w1 wr) ∧ Hid (∀ f : Nat, at_ = f → rightAll m.L → NoHit m f i.toNat)) (fun vi _ => (str.size + 1 - intOf vi).toNat)
  case atStart => exact ⟨at_, by omega, rfl, fun _ => rfl, .inr rfl, Below.refl _ _, fun f hf _ g j h1 h2 => by subst hf; omega⟩
  case round =>
    obtain ⟨i, hai, rfl, hneg, hii, HW, HNH⟩ := hrel
    have HBX2 := hid (HBX.out.below HW.out HBL.out)
    have HRC2 := hid (HRC.out.below HW.out HRL.out)
    have HBW : Hid (Below w.heap.size w wr) := HB0.out.trans (HW.out.mono HB0.out.size)
    by_cases hin : 0 ≤ i ∧ i ≤ str.size
    case neg =>
      have qr : wr.cell? ⟨rc, 0, none⟩ = some (.int .i64 0) ∧ wr.cell? ⟨rc, 1, none⟩ = some (.int .i64 0) := ⟨HRC2.out.cell 0, HRC2.out.cell 1⟩
      have fr := HRC2.out.free
      have HBZ : Hid (Below w.heap.size w ((wr.setCell ⟨rc, 0, none⟩ (.int .i64 0)).setCell ⟨rc, 1, none⟩ (.int .i64 0))) := (HBW.out.setCell (p := ⟨rc, 0, none⟩) HRN.out (.int .i64 0)).setCell (p := ⟨rc, 1, none⟩) HRN.out (.int .i64 0)
      have HEND : Hid (PP (.returned (.tuple #[.agg (spanV none).toArray, .bool false])) ((wr.setCell ⟨rc, 0, none⟩ (.int .i64 0)).setCell ⟨rc, 1, none⟩ (.int .i64 0))) := by
        by_cases hr : ¬ rightAll m.L ∨ at_ < 0 ∨ (str.size : Int) < at_
        · exact HPN.out _ HBZ.out hr
        · obtain ⟨f, hf⟩ : ∃ f : Nat, at_ = f := ⟨at_.toNat, by omega⟩
          have hrr : rightAll m.L := Classical.byContradiction fun hn => hr (.inl hn)
          refine HPY.out _ f none HBZ.out hrr hf (by omega) (fun g j h1 h2 h3 => ?_)
          exact HNH.out f hf hrr g j h1 (by omega) h2 (by rw [HSZ.out]; exact h3)
      rcases Int.lt_or_le i 0 with h0 | h0
      · have d0 : decide (0 ≤ i) = false := by simp; omega
        go_wp2_with fail
        all_goals (try rw [Exit.noGoto_ret])
        all_goals
          refine bodyPost_ret (results_cell_row_tmp rfl _ _ rc _ _ _ _ rfl (show _ = some (Obj.cells (List.toArray _) _) from (HRC2.out.set 0 _).set 1 _) Try.underlying28 rfl (by kernel_rfl)) rfl ?_
          exact HEND.out
      · have d1 : decide (i ≤ (str.size : Int)) = false := by simp; omega
        go_wp2_with fail
        all_goals (try rw [Exit.noGoto_ret])
        all_goals
          refine bodyPost_ret (results_cell_row_tmp rfl _ _ rc _ _ _ _ rfl (show _ = some (Obj.cells (List.toArray _) _) from (HRC2.out.set 0 _).set 1 _) Try.underlying28 rfl (by kernel_rfl)) rfl ?_
          exact HEND.out
    case pos =>
      obtain ⟨f, rfl⟩ := Int.eq_ofNat_of_zero_le hin.1
      obtain ⟨s0, hs0⟩ : ∃ f0 : Nat, at_ = f0 := ⟨at_.toNat, by rcases Int.lt_or_le at_ 0 with h | h; have := hneg h; omega; omega⟩
      subst hs0
      have hfs : f ≤ str.size := by omega
      have hsf : s0 ≤ f := by omega
      have d0 : decide (0 ≤ (f : Int)) = true := by simp
      have q : wr.cell? ⟨w.heap.size, 0, none⟩ = some (.slice a m.L.length c) ∧ wr.cell? ⟨w.heap.size, 1, none⟩ = some (.bool m.lines) := ⟨HBX2.out.cell 0, HBX2.out.cell 1⟩
      have HLG := hid (LongestR_any wr m a c str f (HPR.out.below HW.out))
      generalize hb0 : w.heap.size = b0 at q HBX2
      go_wp2_with fail
      refine HLG.out.mono ?_
      rintro e w2 ⟨hb2, hlg⟩
      have HB2 := hid (HBW.out.trans (hb2.mono HBW.out.size))
      have HW2 := hid (HW.out.trans (hb2.mono HW.out.size))
      have HRC3 := hid (HRC2.out.below hb2 HRC2.out.lt)
      have hlg2 : ∃ b : Option Nat, e = .returned (.tuple #[.int .i64 (b.getD 0 : Nat), .bool b.isSome]) ∧ (b = none → rightAll m.L → ∀ j, f ≤ j → j < m.s.length + 1 → ¬ hit m f j) ∧ (∀ E, b = some E → rightAll m.L ∧ Long m f (m.s.length + 1) (some E)) := by
        rcases hlg with ⟨h1, h2⟩ | ⟨h1, f', b, h2, h3, h4, h5⟩
        · refine ⟨none, h2, fun _ hr => ?_, fun E he => by cases he⟩
          have := HSZ.out
          rcases h1 with h1 | h1 | h1
          · exact absurd hr h1
          · omega
          · omega
        · obtain rfl : f = f' := by omega
          exact ⟨b, h5, fun hb _ => by subst hb; exact h4, fun E hE => by subst hE; exact ⟨h1, h4⟩⟩
      obtain ⟨b, rfl, hb1, hb3⟩ := hlg2
      clear hb2 hlg q HLG
      cases b with
      | none =>
        have HNX : Hid (∀ f0 : Nat, (s0 : Int) = f0 → rightAll m.L → NoHit m f0 (f + 1)) := by
          intro f0 hf0 hr g j h1 h2 h3 h4
          rcases Nat.lt_or_ge g f with h5 | h5
          · exact HNH.out f0 hf0 hr g j h1 (by omega) h3 h4
          · obtain rfl : g = f := by omega
            exact hb1 rfl hr j h3 h4
        go_wp2_with fail
        all_goals
          refine ⟨⟨(f : Int) + 1, by omega, rfl, fun h => by omega, .inl (by omega), HW2.out, ?_⟩, ?_⟩
          · exact HNX.out
          · show ((str.size : Int) + 1 - ((f : Int) + 1)).toNat < ((str.size : Int) + 1 - (f : Int)).toNat
            omega
      | some E =>
        obtain ⟨hr, hE1, hE2, hE3, hE4⟩ := hb3 E rfl
        have HBE : Hid (Best m s0 (str.size + 1) (some (f, E))) := by
          rw [HSZ.out] at hE2 hE4
          refine ⟨hsf, hE1, hE2, hE3, hE4, fun g j h1 h2 h3 h4 => ?_⟩
          exact HNH.out s0 rfl hr g j h1 (by omega) h3 (by rw [HSZ.out]; exact h4)
        have HRI := hid hr
        have qr : w2.cell? ⟨rc, 0, none⟩ = some (.int .i64 0) ∧ w2.cell? ⟨rc, 1, none⟩ = some (.int .i64 0) := ⟨HRC3.out.cell 0, HRC3.out.cell 1⟩
        have fr := HRC3.out.free
        have HEND : Hid (PP (.returned (.tuple #[.agg (spanV (some (f, E))).toArray, .bool true])) ((w2.setCell ⟨rc, 0, none⟩ (.int .i64 f)).setCell ⟨rc, 1, none⟩ (.int .i64 E))) :=
          HPY.out _ s0 (some (f, E)) ((HB2.out.setCell (p := ⟨rc, 0, none⟩) HRN.out (.int .i64 f)).setCell (p := ⟨rc, 1, none⟩) HRN.out (.int .i64 E)) HRI.out rfl (by omega) HBE.out
        clear hE1 hE2 hE3 hE4 hr hb1 hb3
        go_wp2_with fail
        all_goals (try rw [Exit.noGoto_ret])
        all_goals
          refine bodyPost_ret (results_cell_row_tmp rfl _ _ rc _ _ _ _ rfl (show _ = some (Obj.cells (List.toArray _) _) from (HRC3.out.set 0 _).set 1 _) Try.underlying28 rfl (by kernel_rfl)) rfl ?_
          exact HEND.out
set_option maxRecDepth 100000 in
set_option maxHeartbeats 4000000 in
theorem SameIntsR_any (w : World) (b1 b2 : Nat) (v1 v2 : Value) (ts : List Nat) (h1 : w.ownsRow b1 3 1 v1 ts.length (ts.map natV)) (h2 : w.ownsRow b2 3 1 v2 ts.length (ts.map natV)) (hl : ts.length ≤ 1000000) :
    Calls Try.prog 12 #[v1, v2] w fun e w' => e = .returned (.bool true) ∧ Below w.heap.size w w' := by
  obtain ⟨a1, c1, rfl⟩ := ownsRow_shape h1
  obtain ⟨a2, c2, rfl⟩ := ownsRow_shape h2
  have H1 := hid h1
  have H2 := hid h2
  clear h1 h2
  go_enter Try.func12, Try.ntmps12
  go_wp2_with fail
  go_loopw [5] (fun vk wr => ∃ q : Nat, q ≤ ts.length ∧ vk = .int .i64 q ∧ Hid (Below w.heap.size w wr)) (fun vk _ => ts.length - (intOf vk).toNat)
  case atStart => exact ⟨0, by omega, rfl, Below.refl _ _⟩
  case round =>
    obtain ⟨q, hq, rfl, HW⟩ := hrel
    rcases Nat.lt_or_ge q ts.length with hlt | hge
    · obtain ⟨g1, rfl, hg1, hc1⟩ := rowN_cell H1.out hlt
      obtain ⟨g2, rfl, hg2, hc2⟩ := rowN_cell H2.out hlt
      have q1 : wr.cell? ⟨g1, q, none⟩ = some (.int .i64 (ts[q] : Nat)) := by rw [HW.out.cell (p := ⟨g1, q, none⟩) hg1]; exact hc1
      have q2 : wr.cell? ⟨g2, q, none⟩ = some (.int .i64 (ts[q] : Nat)) := by rw [HW.out.cell (p := ⟨g2, q, none⟩) hg2]; exact hc2
      have hqI : (q : Int) < (ts.length : Int) := by omega
      generalize ts[q] = k at *
      clear hc1 hc2
      go_wp2_with fail
      go_quiet (fail)
      go_wp2_with fail
      all_goals
        refine ⟨⟨q + 1, hlt, rfl, below_drewN HW.out _⟩, ?_⟩
        show ts.length - ((q : Int) + 1).toNat < ts.length - (q : Int).toNat
        omega
    · obtain rfl : q = ts.length := by omega
      go_wp2_with fail
      all_goals (try go_ret)
      all_goals exact ⟨rfl, HW.out⟩
end Go.Proofs.Ytnjcfggadeakpaa

/- From what the statement gives of an argument to the program and the string: what is read as data of the type ReProg is a list of instructions in the memory. -/
namespace Go.Proofs.Ytnjcfggadeakpaa
open Go.ChangeShapes Go.WideShapes Go.ChangeAt Go.RowKit
set_option linter.unusedVariables false

theorem ownKnobQ : ownKnob Try.prog.godebug = none := by kernel_rfl
theorem laidOutQ : laidOutB Try.prog = true := by kernel_rfl
theorem cells_instQ : Try.prog.cellsOf 43 = 7 := by kernel_rfl
theorem cells_progQ : Try.prog.cellsOf 24 = 2 := by kernel_rfl
theorem cells_csQ : Try.prog.cellsOf 41 = 4 := by kernel_rfl
theorem cells_a4Q : Try.prog.cellsOf 39 = 4 := by kernel_rfl
theorem cells_oneQ : Try.prog.cellsOf 3 = 1 ∧ Try.prog.cellsOf 38 = 1 ∧ Try.prog.cellsOf 4 = 1 ∧ Try.prog.cellsOf 22 = 1 := by refine ⟨?_, ?_, ?_, ?_⟩ <;> kernel_rfl
theorem bulk_oneQ {H : Type} (d : DataW H) : 1 ≤ Rows.uptoBulk d := by
  cases d with
  | lit l => cases l <;> simp [Rows.uptoBulk]
  | nil => simp [Rows.uptoBulk]
  | ptr d => simp [Rows.uptoBulk]
  | slice elems spare => simp [Rows.uptoBulk]
  | agg parts => simp [Rows.uptoBulk]
  | iface t d => simp [Rows.uptoBulk]
  | map entries => simp [Rows.uptoBulk]
  | held h => simp [Rows.uptoBulk]
theorem bulk_allQ {H : Type} : ∀ (l : List (DataW H)), l.length ≤ Rows.uptoBulkAll l
  | [] => by simp [Rows.uptoBulkAll]
  | d :: l => by
    have h1 := bulk_oneQ d
    have h2 := bulk_allQ l
    simp only [Rows.uptoBulkAll, List.length_cons]
    omega

section
variable {H : Type} {enc : TypeId × Value → H} {w : World} {sp : Nat → Bool} {hd : Bool}
theorem open_i64Q {fuel : Nat} {cs : List Value} {x : DataW H × List MemPlace} (h : DataW.trod enc Try.prog w 0 sp hd fuel 3 cs = some x) : ∃ n, cs = [.int .i64 n] ∧ I64 n := by
  obtain ⟨n, rfl, rfl, hw⟩ := DataW.trod_int Try.underlying3 h
  refine ⟨n, rfl, ?_⟩
  have e1 : IntKind.i64.min = -9223372036854775808 := rfl
  have e2 : IntKind.i64.max = 9223372036854775807 := rfl
  simpa [Lit.wf, e1, e2, I64] using hw
theorem open_u64Q {fuel : Nat} {cs : List Value} {x : DataW H × List MemPlace} (h : DataW.trod enc Try.prog w 0 sp hd fuel 38 cs = some x) : ∃ n : Nat, cs = [.int .u64 n] ∧ W64 n := by
  obtain ⟨n, rfl, rfl, hw⟩ := DataW.trod_int Try.underlying38 h
  have e1 : IntKind.u64.min = 0 := rfl
  have e2 : IntKind.u64.max = 18446744073709551615 := rfl
  have hw2 : 0 ≤ n ∧ n ≤ 18446744073709551615 := by simpa [Lit.wf, e1, e2] using hw
  refine ⟨n.toNat, by rw [Int.toNat_of_nonneg hw2.1], by unfold W64; omega⟩
theorem open_csQ {fuel : Nat} {c0 c1 c2 c3 : Value} {x : DataW H × List MemPlace} (h : DataW.trod enc Try.prog w 0 sp hd fuel 41 [c0, c1, c2, c3] = some x) : ∃ s : Cs, s.wf ∧ [c0, c1, c2, c3] = s.cells := by
  obtain ⟨ys, n, _, rfl, hl, hlen, hf⟩ := DataW.trod_struct Try.underlying41 h
  match ys, hlen with
  | [y0], _ =>
    have h0 : DataW.trod enc Try.prog w 0 sp hd n 39 (([c0, c1, c2, c3].drop 0).take (Try.prog.cellsOf 39)) = [y0][0]? := hf 0 _ rfl
    rw [cells_a4Q] at h0
    simp at h0
    obtain ⟨zs, m, _, rfl, hl2, hlen2, hf2⟩ := DataW.trod_array Try.underlying39 h0
    match zs, hlen2 with
    | [z0, z1, z2, z3], _ =>
      have g0 := hf2 0 (by omega)
      have g1 := hf2 1 (by omega)
      have g2 := hf2 2 (by omega)
      have g3 := hf2 3 (by omega)
      simp only [cells_oneQ.2.1] at g0 g1 g2 g3
      simp at g0 g1 g2 g3
      obtain ⟨a, ha, wa⟩ := open_u64Q g0
      obtain ⟨b, hb, wb⟩ := open_u64Q g1
      obtain ⟨c, hc, wc⟩ := open_u64Q g2
      obtain ⟨d, hd, wd⟩ := open_u64Q g3
      injection ha with ha
      injection hb with hb
      injection hc with hc
      injection hd with hd
      subst ha hb hc hd
      exact ⟨⟨a, b, c, d⟩, ⟨wa, wb, wc, wd⟩, rfl⟩
/-- An argument of the type Charset. -/
theorem open_csv {v : Value} {d : DataW H} {ps : List MemPlace} (h : DataW.Trod enc Try.prog w 0 sp hd 41 v d ps) : ∃ s : Cs, s.wf ∧ v = .agg #[.int .u64 s.a, .int .u64 s.b, .int .u64 s.c, .int .u64 s.d] := by
  obtain ⟨fuel, hf⟩ := h
  obtain ⟨ys, n, _, _, hl, hlen, hf2⟩ := DataW.trod_struct Try.underlying41 hf
  rw [cells_csQ] at hl
  match hc : v.cells.toList, hl with
  | [c0, c1, c2, c3], _ =>
    rw [hc] at hf
    obtain ⟨s, hs, he⟩ := open_csQ hf
    refine ⟨s, hs, ?_⟩
    rw [he] at hc
    cases v <;> simp [Value.cells, Cs.cells] at hc ⊢
    rename_i arr
    obtain ⟨l⟩ := arr
    simpa using hc
set_option maxRecDepth 100000 in
theorem open_inst {fuel : Nat} {cs : List Value} {x : DataW H × List MemPlace} (h : DataW.trod enc Try.prog w 0 sp hd fuel 43 cs = some x) : ∃ f : Inst, cs = f.cells ∧ f.set.wf ∧ I64 f.op ∧ I64 f.x ∧ I64 f.y := by
  obtain ⟨ys, n, hfu, rfl, hl, hlen, hf⟩ := DataW.trod_struct Try.underlying43 h
  rw [cells_instQ] at hl
  match cs, hl with
  | [c0, c1, c2, c3, c4, c5, c6], _ =>
  match ys, hlen with
  | [y0, y1, y2, y3], _ =>
    have h0 : DataW.trod enc Try.prog w 0 sp hd n 3 (([c0, c1, c2, c3, c4, c5, c6].drop 0).take (Try.prog.cellsOf 3)) = [y0, y1, y2, y3][0]? := hf 0 _ rfl
    have h1 : DataW.trod enc Try.prog w 0 sp hd n 41 (([c0, c1, c2, c3, c4, c5, c6].drop 1).take (Try.prog.cellsOf 41)) = [y0, y1, y2, y3][1]? := hf 1 _ rfl
    have h2 : DataW.trod enc Try.prog w 0 sp hd n 3 (([c0, c1, c2, c3, c4, c5, c6].drop 5).take (Try.prog.cellsOf 3)) = [y0, y1, y2, y3][2]? := hf 2 _ rfl
    have h3 : DataW.trod enc Try.prog w 0 sp hd n 3 (([c0, c1, c2, c3, c4, c5, c6].drop 6).take (Try.prog.cellsOf 3)) = [y0, y1, y2, y3][3]? := hf 3 _ rfl
    rw [cells_oneQ.1] at h0 h2 h3
    rw [cells_csQ] at h1
    simp at h0 h1 h2 h3
    obtain ⟨op, e0, w0⟩ := open_i64Q h0
    obtain ⟨s, ws, es⟩ := open_csQ h1
    obtain ⟨x, e2, w2⟩ := open_i64Q h2
    obtain ⟨y, e3, w3⟩ := open_i64Q h3
    injection e0 with e0
    injection e2 with e2
    injection e3 with e3
    subst e0 e2 e3
    unfold Cs.cells at es
    injection es with e10 es
    injection es with e11 es
    injection es with e12 es
    injection es with e13 es
    subst e10 e11 e12 e13
    exact ⟨⟨op, s, x, y⟩, rfl, ws, w0, w2, w3⟩

structure Fits (L : List Inst) : Prop where
  wf : ∀ k (h : k < L.length), L[k].set.wf
  i64 : ∀ k (h : k < L.length), I64 L[k].op ∧ I64 L[k].x ∧ I64 L[k].y
theorem open_insts (b o : Nat) : ∀ (elems : List (DataW H × List MemPlace)) (k : Nat), (∀ (i : Nat) (x : DataW H × List MemPlace), elems[i]? = some x → ∃ (f : Inst) (cs : List Value), w.cells? 0 ((⟨b, o, none⟩ : Addr).add ((k + i) * 7)) 7 = some cs ∧ cs = f.cells ∧ f.set.wf ∧ I64 f.op ∧ I64 f.x ∧ I64 f.y) →
    ∃ L : List Inst, L.length = elems.length ∧ (∀ i (h : i < L.length), CellsAt w b (o + (k + i) * 7) L[i].cells) ∧ Fits L
  | [], k, _ => ⟨[], rfl, (fun i h => by cases h), ⟨(fun i h => by cases h), (fun i h => by cases h)⟩⟩
  | x :: elems, k, h => by
    obtain ⟨f, cs, hc, rfl, h1, h2⟩ := h 0 x rfl
    obtain ⟨_, hlen, hcell⟩ := World.cells?_some hc
    obtain ⟨l, g1, g2, g3⟩ := open_insts b o elems (k + 1) (fun i y hy => by
      have := h (i + 1) y (by simpa using hy)
      rwa [show k + 1 + i = k + (i + 1) by omega])
    refine ⟨f :: l, by simp [g1], fun i hi => ?_, ⟨fun i hi => ?_, fun i hi => ?_⟩⟩
    · cases i with
      | zero =>
        intro j v hj
        have hj7 : j < 7 := (List.getElem?_eq_some_iff.1 hj).1
        have := hcell j hj7
        rw [Addr.add_lit, Addr.add_lit] at this
        exact this.trans hj
      | succ i =>
        have := g2 i (Nat.lt_of_succ_lt_succ hi)
        rwa [show k + 1 + i = k + (i + 1) by omega] at this
    · cases i with
      | zero => exact h1
      | succ i => exact g3.wf i (Nat.lt_of_succ_lt_succ hi)
    · cases i with
      | zero => exact h2
      | succ i => exact g3.i64 i (Nat.lt_of_succ_lt_succ hi)

/-- An argument of the type ReProg. -/
theorem open_prog {v : Value} {d : DataW H} {ps : List MemPlace} (h : DataW.Trod enc Try.prog w 0 sp hd 24 v d ps) : ∃ (a : Option Addr) (c : Nat) (L : List Inst) (lines : Bool), v = .agg #[.slice a L.length c, .bool lines] ∧ InsAt w a L ∧ Fits L ∧ L.length ≤ Rows.uptoBulk d := by
  obtain ⟨fuel, hf⟩ := h
  obtain ⟨ys, n, hfu, hd0, hl, hlen, hf⟩ := DataW.trod_struct Try.underlying24 hf
  rw [cells_progQ] at hl
  match hc : v.cells.toList, hl with
  | [c0, c1], _ =>
  rw [hc] at hf
  match ys, hlen with
  | [y0, y1], _ =>
    have h0 : DataW.trod enc Try.prog w 0 sp hd n 22 (([c0, c1].drop 0).take (Try.prog.cellsOf 22)) = [y0, y1][0]? := hf 0 _ rfl
    have h1 : DataW.trod enc Try.prog w 0 sp hd n 4 (([c0, c1].drop 1).take (Try.prog.cellsOf 4)) = [y0, y1][1]? := hf 1 _ rfl
    rw [cells_oneQ.2.2.2] at h0
    rw [cells_oneQ.2.2.1] at h1
    simp at h0 h1
    obtain ⟨lines, e1, -⟩ := DataW.trod_bool Try.underlying4 h1
    injection e1 with e1
    subst e1
    have hv : ∀ (x : Value), v.cells.toList = [x, .bool lines] → v = .agg #[x, .bool lines] := by
      intro x hx
      cases v <;> simp [Value.cells] at hx ⊢
      rename_i arr
      obtain ⟨l⟩ := arr
      simpa using hx
    have hbd : Rows.uptoBulk y0.1 ≤ Rows.uptoBulk d := by
      simp only [Prod.mk.injEq] at hd0
      rw [hd0.1]
      simp only [Rows.uptoBulk, Rows.uptoBulkAll, List.map_cons]
      omega
    rcases DataW.trod_slice Try.underlying22 h0 with ⟨hcs, hx⟩ | ⟨a, len, cap, elems, rest, m, hm, hcs, hx, hb, hle, hcm, hel, hall, _, _⟩
    · injection hcs with hcs
      subst hcs
      exact ⟨none, 0, [], lines, hv _ hc, .inl rfl, ⟨(fun i h => by cases h), (fun i h => by cases h)⟩, Nat.zero_le _⟩
    · injection hcs with hcs
      subst hcs
      rw [cells_instQ] at hall
      have each : ∀ (i : Nat) (x : DataW H × List MemPlace), elems[i]? = some x → ∃ (f : Inst) (cs : List Value), w.cells? 0 (a.add ((0 + i) * 7)) 7 = some cs ∧ cs = f.cells ∧ f.set.wf ∧ I64 f.op ∧ I64 f.x ∧ I64 f.y := by
        intro i y hy
        have hil : i < len := by rw [← hel]; exact (List.getElem?_eq_some_iff.1 hy).1
        have hh := hall i hil
        rw [hy] at hh
        obtain ⟨cs', g1, g2⟩ := Option.bind_eq_some_iff.1 hh
        obtain ⟨c, g3, g4⟩ := open_inst g2
        exact ⟨c, cs', by rw [Nat.zero_add]; exact g1, g3, g4⟩
      have hbulk : len ≤ Rows.uptoBulk d := by
        refine Nat.le_trans ?_ hbd
        rw [hx]
        have h1 := bulk_allQ (elems.map (·.1))
        rw [List.length_map, hel] at h1
        simp only [Rows.uptoBulk]
        omega
      rcases Nat.eq_zero_or_pos len with h0 | h0
      · subst h0
        exact ⟨some a, cap, [], lines, hv _ hc, .inl rfl, ⟨(fun i h => by cases h), (fun i h => by cases h)⟩, Nat.zero_le _⟩
      · obtain ⟨f, cs, hcf, rfl, _⟩ := each 0 _ (List.getElem?_eq_getElem (by omega))
        obtain ⟨_, hlen, hcell⟩ := World.cells?_some hcf
        have hc0 := hcell 0 (by omega)
        have hsp : a.spot = none := by
          have hx : f.cells[0]? = some (.int .i64 f.op) := rfl
          rw [hx] at hc0
          simpa [Addr.add] using World.cell?_spot hc0
        have hlt : a.block < w.heap.size := by
          have hx : f.cells[0]? = some (.int .i64 f.op) := rfl
          rw [hx] at hc0
          rcases Nat.lt_or_ge a.block w.heap.size with h1 | h1
          · exact h1
          · simp [World.cell?, Addr.add, Array.getElem?_eq_none h1] at hc0
        obtain ⟨b, o, spt⟩ := a
        simp only at hsp hlt
        subst hsp
        obtain ⟨L, g1, g2, g3⟩ := open_insts b o elems 0 each
        have hLl : L.length = len := by rw [g1, hel]
        refine ⟨some ⟨b, o, none⟩, cap, L, lines, by rw [hLl]; exact hv _ hc, .inr ⟨b, o, rfl, hlt, fun i hi => ?_⟩, g3, by omega⟩
        have := g2 i hi
        rwa [Nat.zero_add] at this
/-- A string that is given. -/
theorem open_str {s : ByteArray} {d : DataW H} {ps : List MemPlace} (h : DataW.Trod enc Try.prog w 0 sp hd 9 (.string s) d ps) : s.size ≤ Rows.uptoBulk d := by
  obtain ⟨fuel, hf⟩ := h
  obtain ⟨s', hc, hx, -⟩ := DataW.trod_string Try.underlying9 hf
  have e : s' = s := by simpa [Value.cells] using hc.symm
  subst e
  simp only [Prod.mk.injEq] at hx
  rw [hx.1]
  simp only [Rows.uptoBulk]
  have : s'.data.toList.length = s'.size := by rw [Array.length_toList]; rfl
  omega
/-- An argument of the type Part. -/
theorem open_part {v : Value} {d : DataW H} {ps : List MemPlace} (h : DataW.Trod enc Try.prog w 0 sp hd 33 v d ps) : ∃ (s : ByteArray) (x y : Int), v = .agg #[.string s, .int .i64 x, .int .i64 y] ∧ s.size ≤ Rows.uptoBulk d ∧ I64 x ∧ I64 y := by
  obtain ⟨fuel, hf⟩ := h
  have hcells : Try.prog.cellsOf 33 = 3 := by kernel_rfl
  have hstr : Try.prog.cellsOf 9 = 1 := by kernel_rfl
  obtain ⟨ys, n, hfu, hd0, hl, hlen, hf⟩ := DataW.trod_struct Try.underlying33 hf
  rw [hcells] at hl
  match hc : v.cells.toList, hl with
  | [c0, c1, c2], _ =>
  rw [hc] at hf
  match ys, hlen with
  | [y0, y1, y2], _ =>
    have h0 : DataW.trod enc Try.prog w 0 sp hd n 9 (([c0, c1, c2].drop 0).take (Try.prog.cellsOf 9)) = [y0, y1, y2][0]? := hf 0 _ rfl
    have h1 : DataW.trod enc Try.prog w 0 sp hd n 3 (([c0, c1, c2].drop 1).take (Try.prog.cellsOf 3)) = [y0, y1, y2][1]? := hf 1 _ rfl
    have h2 : DataW.trod enc Try.prog w 0 sp hd n 3 (([c0, c1, c2].drop 2).take (Try.prog.cellsOf 3)) = [y0, y1, y2][2]? := hf 2 _ rfl
    rw [hstr] at h0
    rw [cells_oneQ.1] at h1 h2
    simp at h0 h1 h2
    obtain ⟨s, e0, hx, -⟩ := DataW.trod_string Try.underlying9 h0
    obtain ⟨x, e1, w1⟩ := open_i64Q h1
    obtain ⟨y, e2, w2⟩ := open_i64Q h2
    injection e0 with e0
    injection e1 with e1
    injection e2 with e2
    subst e0 e1 e2
    refine ⟨s, x, y, ?_, ?_, w1, w2⟩
    · cases v <;> simp [Value.cells] at hc ⊢
      rename_i arr
      obtain ⟨l⟩ := arr
      simpa using hc
    · simp only [Prod.mk.injEq] at hd0
      rw [hd0.1]
      simp only [Rows.uptoBulk, Rows.uptoBulkAll, List.map_cons]
      rw [hx]
      simp only [Rows.uptoBulk]
      have : s.data.toList.length = s.size := by rw [Array.length_toList]; rfl
      omega
end
end Go.Proofs.Ytnjcfggadeakpaa
