/- A simulation in memory; begins and ends. -/
import Derived.Test.YthnpbopnpdlmnaaX10
import Derived.Test.YthnpbopnpdlmnaaX03
import Derived.OneCell
namespace Go.Proofs.Ythnpbopnpdlmnaa
open Go.RowKit
attribute [local go_sem] gives givesUpon

def InsAt (w : World) (a : Option Addr) (L : List Inst) : Prop := L = [] ∨ ∃ b o, a = some ⟨b, o, none⟩ ∧ b < w.heap.size ∧ ∀ i (h : i < L.length), CellsAt w b (o + i * 7) L[i].cells
theorem InsAt.below {w w' : World} {a : Option Addr} {L : List Inst} {n : Nat} (h : InsAt w a L) (hb : Below n w w') (hn : w.heap.size ≤ n) : InsAt w' a L := by
  rcases h with h | ⟨b, o, rfl, h1, h2⟩
  · exact .inl h
  · exact .inr ⟨b, o, rfl, Nat.lt_of_lt_of_le h1 hb.size, fun i hi j v hj => by rw [hb.cell (p := ⟨b, o + i * 7 + j, none⟩) (show b < n by omega)]; exact h2 i hi j v hj⟩
theorem InsAt.at {w : World} {a : Option Addr} {L : List Inst} (h : InsAt w a L) {k : Nat} (hk : k < L.length) : ∃ b o, a = some ⟨b, o, none⟩ ∧ b < w.heap.size ∧ CellsAt w b (o + k * 7) L[k].cells := by
  rcases h with h | ⟨b, o, e, h1, h2⟩
  · rw [h] at hk; cases hk
  · exact ⟨b, o, e, h1, h2 k hk⟩
structure SimC (CS : List Value) (a : Option Addr) (n c : Nat) (lines : Bool) (str : ByteArray) (mk : Nat → Int) (st : Int) (sv : Value) : Prop where
  len : CS.length = 4101
  f0 : CS[0]? = some (.slice a n c)
  f1 : CS[1]? = some (.bool lines)
  f2 : CS[2]? = some (.string str)
  fm : ∀ k, k < 4096 → CS[3 + k]? = some (.int .i64 (mk k))
  fs : CS[4099]? = some (.int .i64 st)
  fk : CS[4100]? = some sv
def SimAt (w : World) (M : Nat) (a : Option Addr) (n c : Nat) (lines : Bool) (str : ByteArray) (mk : Nat → Int) (st : Int) (sv : Value) : Prop := ∃ CS, Row w M CS 92 ∧ SimC CS a n c lines str mk st sv
section
variable {w w' : World} {M : Nat} {a : Option Addr} {n c : Nat} {lines : Bool} {str : ByteArray} {mk : Nat → Int} {st : Int} {sv : Value}
theorem SimAt.cells (h : SimAt w M a n c lines str mk st sv) :
    (w.cell? ⟨M, 0, none⟩ = some (.slice a n c) ∧ w.cell? ⟨M, 1, none⟩ = some (.bool lines) ∧ w.cell? ⟨M, 2, none⟩ = some (.string str) ∧ w.cell? ⟨M, 4099, none⟩ = some (.int .i64 st) ∧ w.cell? ⟨M, 4100, none⟩ = some sv) := by
  obtain ⟨CS, hr, hc⟩ := h
  exact ⟨(hr.cell 0).trans hc.f0, (hr.cell 1).trans hc.f1, (hr.cell 2).trans hc.f2, (hr.cell 4099).trans hc.fs, (hr.cell 4100).trans hc.fk⟩
theorem SimAt.mark (h : SimAt w M a n c lines str mk st sv) {k : Nat} (hk : k < 4096) : w.cell? ⟨M, 3 + k, none⟩ = some (.int .i64 (mk k)) := by
  obtain ⟨CS, hr, hc⟩ := h
  exact (hr.cell _).trans (hc.fm k hk)
theorem SimAt.free (h : SimAt w M a n c lines str mk st sv) (o : Nat) : w.frozen? ⟨M, o, none⟩ = false := by
  obtain ⟨CS, hr, hc⟩ := h
  exact hr.free o
theorem SimAt.lt (h : SimAt w M a n c lines str mk st sv) : M < w.heap.size := by
  obtain ⟨CS, hr, hc⟩ := h
  exact hr.lt
theorem SimAt.kept (h : SimAt w M a n c lines str mk st sv) (hk : w'.heap[M]? = w.heap[M]?) : SimAt w' M a n c lines str mk st sv := by
  obtain ⟨CS, hr, hc⟩ := h
  exact ⟨CS, hk.trans hr, hc⟩
theorem SimAt.setMark (h : SimAt w M a n c lines str mk st sv) {k : Nat} (hk : k < 4096) (v : Int) : SimAt (w.setCell ⟨M, 3 + k, none⟩ (.int .i64 v)) M a n c lines str (upd1 mk k v) st sv := by
  obtain ⟨CS, hr, hc⟩ := h
  refine ⟨_, hr.set (3 + k) (.int .i64 v), ?_⟩
  refine ⟨by rw [List.length_set]; exact hc.len, ?_, ?_, ?_, fun j hj => ?_, ?_, ?_⟩
  · rw [List.getElem?_set_ne (by omega)]; exact hc.f0
  · rw [List.getElem?_set_ne (by omega)]; exact hc.f1
  · rw [List.getElem?_set_ne (by omega)]; exact hc.f2
  · unfold upd1
    split
    · rename_i e
      subst e
      rw [List.getElem?_set_self (by rw [hc.len]; omega)]
    · rename_i e
      rw [List.getElem?_set_ne (by omega)]
      exact hc.fm j hj
  · rw [List.getElem?_set_ne (by omega)]; exact hc.fs
  · rw [List.getElem?_set_ne (by omega)]; exact hc.fk
theorem SimAt.setStep (h : SimAt w M a n c lines str mk st sv) (v : Int) : SimAt (w.setCell ⟨M, 4099, none⟩ (.int .i64 v)) M a n c lines str mk v sv := by
  obtain ⟨CS, hr, hc⟩ := h
  refine ⟨_, hr.set 4099 (.int .i64 v), ?_⟩
  refine ⟨by rw [List.length_set]; exact hc.len, ?_, ?_, ?_, fun j hj => ?_, ?_, ?_⟩
  · rw [List.getElem?_set_ne (by omega)]; exact hc.f0
  · rw [List.getElem?_set_ne (by omega)]; exact hc.f1
  · rw [List.getElem?_set_ne (by omega)]; exact hc.f2
  · rw [List.getElem?_set_ne (by omega)]; exact hc.fm j hj
  · rw [List.getElem?_set_self (by rw [hc.len]; omega)]
  · rw [List.getElem?_set_ne (by omega)]; exact hc.fk
theorem SimAt.setStack (h : SimAt w M a n c lines str mk st sv) (v : Value) : SimAt (w.setCell ⟨M, 4100, none⟩ v) M a n c lines str mk st v := by
  obtain ⟨CS, hr, hc⟩ := h
  refine ⟨_, hr.set 4100 v, ?_⟩
  refine ⟨by rw [List.length_set]; exact hc.len, ?_, ?_, ?_, fun j hj => ?_, ?_, ?_⟩
  · rw [List.getElem?_set_ne (by omega)]; exact hc.f0
  · rw [List.getElem?_set_ne (by omega)]; exact hc.f1
  · rw [List.getElem?_set_ne (by omega)]; exact hc.f2
  · rw [List.getElem?_set_ne (by omega)]; exact hc.fm j hj
  · rw [List.getElem?_set_ne (by omega)]; exact hc.fs
  · rw [List.getElem?_set_self (by rw [hc.len]; omega)]
end
theorem Row.ne_own {w : World} {B : Nat} {cs : List Value} {T e : TypeId} {base size n : Nat} {v : Value} {xs : List Value} (r : Row w B cs T) (h : w.ownsRow base e size v n xs) (hne : T ≠ e) : ∀ g, v.ownBlock = some g → g ≠ B := by
  intro g hg e1
  subst e1
  obtain ⟨-, h2⟩ := h
  rcases h2 with ⟨hv, -⟩ | ⟨g', cap, cur, hv, -, hh, -⟩
  · rw [hv] at hg; cases hg
  · rw [hv] at hg
    have e2 : g' = g := by simpa [Value.ownBlock] using hg
    subst e2
    unfold Row at r
    rw [hh] at r
    simp only [Option.some.injEq, Obj.cells.injEq] at r
    exact hne r.2.1.symm
theorem own_ne_own {w : World} {e e' : TypeId} {base base' size size' n n' : Nat} {v v' : Value} {xs xs' : List Value} (h : w.ownsRow base e size v n xs) (h' : w.ownsRow base' e' size' v' n' xs') (hne : e ≠ e') : ∀ g, v.ownBlock = some g → v'.ownBlock ≠ some g := by
  intro g hg hg'
  obtain ⟨-, h2⟩ := h
  obtain ⟨-, h2'⟩ := h'
  rcases h2 with ⟨hv, -⟩ | ⟨g1, cap, cur, hv, -, hh, -⟩
  · rw [hv] at hg; cases hg
  rcases h2' with ⟨hv', -⟩ | ⟨g2, cap', cur', hv', -, hh', -⟩
  · rw [hv'] at hg'; cases hg'
  rw [hv] at hg
  rw [hv'] at hg'
  have e1 : g1 = g := by simpa [Value.ownBlock] using hg
  have e2 : g2 = g := by simpa [Value.ownBlock] using hg'
  subst e1 e2
  rw [hh] at hh'
  simp only [Option.some.injEq, Obj.cells.injEq] at hh'
  exact hne hh'.2.1
theorem ownsRow_heap {w w' : World} {base : Nat} {e : TypeId} {size n : Nat} {v : Value} {xs : List Value} (h : w.ownsRow base e size v n xs) (hk : ∀ g, v.ownBlock = some g → w'.heap[g]? = w.heap[g]?) : w'.ownsRow base e size v n xs := by
  obtain ⟨h1, h2⟩ := h
  refine ⟨h1, ?_⟩
  rcases h2 with h2 | ⟨g, cap, cur, hv, hg, hh, r⟩
  · exact .inl h2
  · subst hv
    exact .inr ⟨g, cap, cur, rfl, hg, (hk g rfl).trans hh, r⟩
theorem ownsRow_cut {w : World} {base : Nat} {e : TypeId} {ad : Option Addr} {n c k : Nat} {xs : List Value} (h : w.ownsRow base e 1 (.slice ad n c) n xs) (hk : k ≤ n) : w.ownsRow base e 1 (.slice ad k c) k (xs.take k) := by
  obtain ⟨h1, h2⟩ := h
  refine ⟨by rw [List.length_take]; omega, ?_⟩
  rcases h2 with ⟨hv, hn⟩ | ⟨g, cap, cur, hv, hg, hh, h3, h4, h5, h6⟩
  · injection hv with e1 e2 e3
    subst e1 e2 e3
    obtain rfl : k = 0 := by omega
    exact .inl ⟨rfl, rfl⟩
  · injection hv with e1 e2 e3
    subst e1 e3
    refine .inr ⟨g, c, cur, rfl, hg, hh, by omega, h4, h5, ?_⟩
    rw [← h6, List.take_take]
    congr 1
    omega
theorem byte_eq {m : Sim} {str : ByteArray} (hs : m.s = str.data.toList) {i : Nat} (hi : i < str.size) : m.byte i = (str[i]).toNat := by
  unfold Sim.byte
  rw [hs, List.getD_eq_getElem?_getD]
  have h1 : i < str.data.toList.length := by rw [Array.length_toList]; exact hi
  rw [List.getElem?_eq_getElem h1]
  rfl
theorem size_eq {m : Sim} {str : ByteArray} (hs : m.s = str.data.toList) : m.s.length = str.size := by rw [hs, Array.length_toList]; rfl
set_option maxHeartbeats 2000000 in
theorem begins_any (w : World) (m : Sim) (M : Nat) (a : Option Addr) (n c : Nat) (str : ByteArray) (mk : Nat → Int) (st : Int) (sv : Value) (i : Nat) (h : SimAt w M a n c m.lines str mk st sv) (hs : m.s = str.data.toList) (hi : i ≤ str.size) (hl : str.size ≤ 1000000) :
    Calls Try.prog 68 #[.pointer (some ⟨M, 0, none⟩), .int .i64 i] w fun e w' => e = .returned (.bool (m.begins i)) ∧ w' = w := by
  have q := h.cells
  have HV : Hid (m.begins i = (i == 0 || (m.lines && (m.byte (i - 1) == 10)))) := rfl
  have HB : Hid (0 < i → m.byte (i - 1) = (str[i - 1]!).toNat) := by
    intro h0
    rw [byte_eq hs (by omega)]
    congr 1
    rw [getElem!_pos str (i - 1) (by omega)]
  generalize m.begins i = ans at *
  generalize m.lines = lines at *
  clear h
  rcases Nat.eq_zero_or_pos i with rfl | h0
  · have ea : ans = true := by rw [HV.out]; rfl
    subst ea
    go_enter Try.func68, Try.ntmps68
    go_wp2_with fail
    all_goals go_ret
    all_goals exact ⟨rfl, rfl⟩
  · have d0 : ((i : Int) == 0) = false := by simp; omega
    have d1 : (i == 0) = false := by simp; omega
    have ea : ans = (lines && (m.byte (i - 1) == 10)) := by rw [HV.out, d1]; rfl
    rw [HB.out h0] at ea
    rcases Bool.eq_false_or_eq_true lines with rfl | rfl
    · obtain ⟨j, rfl⟩ : ∃ j, i = j + 1 := ⟨i - 1, by omega⟩
      rw [show j + 1 - 1 = j from rfl, getElem!_pos str j (by omega)] at ea
      have HA := hid ea
      clear HV HB ea
      have hj : (j : Int) < str.size := by omega
      go_enter Try.func68, Try.ntmps68
      go_wp2_with fail
      all_goals go_ret
      all_goals
        refine ⟨ret_bool ?_, rfl⟩
        rw [HA.out]
        have e1 : ((j : Int) + 1 == 0) = false := by simp; omega
        rw [e1]
        exact Bool.eq_iff_iff.2 (by simp; omega)
    · have ea2 : ans = false := by rw [ea]; rfl
      subst ea2
      clear HV HB ea
      go_enter Try.func68, Try.ntmps68
      go_wp2_with fail
      all_goals go_ret
      all_goals exact ⟨rfl, rfl⟩
set_option maxHeartbeats 2000000 in
theorem ends_any (w : World) (m : Sim) (M : Nat) (a : Option Addr) (n c : Nat) (str : ByteArray) (mk : Nat → Int) (st : Int) (sv : Value) (i : Nat) (h : SimAt w M a n c m.lines str mk st sv) (hs : m.s = str.data.toList) (hi : i ≤ str.size) (_hl : str.size ≤ 1000000) :
    Calls Try.prog 69 #[.pointer (some ⟨M, 0, none⟩), .int .i64 i] w fun e w' => e = .returned (.bool (m.ends i)) ∧ w' = w := by
  have q := h.cells
  have HV : Hid (m.ends i = (i == str.size || (m.lines && (m.byte i == 10)))) := by show _ = _; unfold Sim.ends; rw [size_eq hs]
  have HB : Hid (∀ h : i < str.size, m.byte i = (str[i]).toNat) := fun h => byte_eq hs h
  generalize m.ends i = ans at *
  generalize m.lines = lines at *
  clear h
  rcases Nat.lt_or_ge i str.size with h0 | h0
  · have d0 : ((i : Int) == (str.size : Int)) = false := by simp; omega
    have d1 : (i == str.size) = false := by simp; omega
    have ea : ans = (lines && (m.byte i == 10)) := by rw [HV.out, d1]; rfl
    rw [HB.out h0] at ea
    rcases Bool.eq_false_or_eq_true lines with rfl | rfl
    · have HA := hid ea
      clear HV HB ea
      have hj : (i : Int) < str.size := by omega
      go_enter Try.func69, Try.ntmps69
      go_wp2_with fail
      all_goals go_ret
      all_goals
        refine ⟨ret_bool ?_, rfl⟩
        rw [HA.out]
        exact Bool.eq_iff_iff.2 (by simp; omega)
    · have ea2 : ans = false := by rw [ea]; rfl
      subst ea2
      clear HV HB ea
      go_enter Try.func69, Try.ntmps69
      go_wp2_with fail
      all_goals go_ret
      all_goals exact ⟨rfl, rfl⟩
  · obtain rfl : i = str.size := by omega
    have ea : ans = true := by rw [HV.out]; simp
    subst ea
    go_enter Try.func69, Try.ntmps69
    go_wp2_with fail
    all_goals go_ret
    all_goals exact ⟨rfl, rfl⟩
end Go.Proofs.Ythnpbopnpdlmnaa

/- A simulation in memory with its stack and a list of threads: what a search may do to it. -/
namespace Go.Proofs.Ythnpbopnpdlmnaa
open Go.RowKit

def Drawn (w w' : World) : Prop := ∃ m, w' = w.drewN m
theorem Drawn.refl (w : World) : Drawn w w := ⟨0, rfl⟩
theorem Drawn.trans {a b c : World} (h : Drawn a b) (k : Drawn b c) : Drawn a c := by
  obtain ⟨m, rfl⟩ := h
  obtain ⟨n, rfl⟩ := k
  exact ⟨m + n, World.drewN_drewN ..⟩
theorem Drawn.below {a b : World} (h : Drawn a b) : Below a.heap.size a b := by
  obtain ⟨m, rfl⟩ := h
  exact below_drewN (Below.refl _ _) _
def natV (k : Nat) : Value := .int .i64 k
def tcells (t : Nat × Nat) : List Value := [.int .i64 t.1, .int .i64 t.2]
def ob (v : Value) : List Nat := match v.ownBlock with | some g => [g] | none => []
theorem mem_ob {v : Value} {g : Nat} : g ∈ ob v ↔ v.ownBlock = some g := by
  unfold ob
  cases h : v.ownBlock with
  | none => simp
  | some x => simp [eq_comm]
structure Env (wb : World) (m : Sim) (a : Option Addr) (str : ByteArray) : Prop where
  ins : InsAt wb a m.L
  right : rightAll m.L
  wf : ∀ k (h : k < m.L.length), m.L[k].set.wf
  s : m.s = str.data.toList
  short : str.size ≤ 1000000
structure RchM (wb w0 : World) (m : Sim) (M : Nat) (a : Option Addr) (c : Nat) (str : ByteArray) (st : Int) (sv0 lv0 : Value) (mk : Nat → Int) (sv : Value) (St : List Nat) (lv : Value) (T : List (Nat × Nat)) (w : World) : Prop where
  sim : SimAt w M a m.L.length c m.lines str mk st sv
  stk : w.ownsRow wb.heap.size 3 1 sv St.length (St.map natV)
  lst : w.ownsRow wb.heap.size 96 2 lv T.length (T.flatMap tcells)
  lo : wb.heap.size ≤ M
  low : Below wb.heap.size wb w
  but : But (M :: (ob sv0 ++ ob lv0)) w0 w
  os : ∀ g, g ∈ ob sv → g ∈ ob sv0 ∨ w0.heap.size ≤ g
  ol : ∀ g, g ∈ ob lv → g ∈ ob lv0 ∨ w0.heap.size ≤ g
section
variable {wb w0 w w' : World} {m : Sim} {M : Nat} {a : Option Addr} {c : Nat} {str : ByteArray} {st : Int} {sv0 lv0 : Value} {mk : Nat → Int} {sv : Value} {St : List Nat} {lv : Value} {T : List (Nat × Nat)}
theorem RchM.more (h : RchM wb w0 m M a c str st sv0 lv0 mk sv St lv T w) (hb : Below w.heap.size w w') : RchM wb w0 m M a c str st sv0 lv0 mk sv St lv T w' :=
  ⟨h.sim.kept (hb.block _ h.sim.lt), ownsRow_heap h.stk fun g hg => hb.block g (h.stk.lt g hg).2, ownsRow_heap h.lst fun g hg => hb.block g (h.lst.lt g hg).2, h.lo, h.low.trans (hb.mono h.low.size), h.but.later (S' := []) (But.of_below hb) (fun i hi => by cases hi), h.os, h.ol⟩
theorem RchM.stk_ne (h : RchM wb w0 m M a c str st sv0 lv0 mk sv St lv T w) : ∀ g, sv.ownBlock = some g → g ≠ M := by
  obtain ⟨CS, hr, -⟩ := h.sim
  exact hr.ne_own h.stk (by decide)
theorem RchM.lst_ne (h : RchM wb w0 m M a c str st sv0 lv0 mk sv St lv T w) : ∀ g, lv.ownBlock = some g → g ≠ M := by
  obtain ⟨CS, hr, -⟩ := h.sim
  exact hr.ne_own h.lst (by decide)
theorem RchM.apart (h : RchM wb w0 m M a c str st sv0 lv0 mk sv St lv T w) : ∀ g, sv.ownBlock = some g → lv.ownBlock ≠ some g := own_ne_own h.stk h.lst (by decide)
theorem RchM.cell (h : RchM wb w0 m M a c str st sv0 lv0 mk sv St lv T w) (o : Nat) (v : Value) {mk' : Nat → Int} {st' : Int} {sv' : Value} {St' : List Nat} (hs : SimAt (w.setCell ⟨M, o, none⟩ v) M a m.L.length c m.lines str mk' st' sv')
    (hk : w.ownsRow wb.heap.size 3 1 sv' St'.length (St'.map natV)) (ho : ∀ g, g ∈ ob sv' → g ∈ ob sv) : RchM wb w0 m M a c str st' sv0 lv0 mk' sv' St' lv T (w.setCell ⟨M, o, none⟩ v) := by
  have hMs := h.sim.lt
  refine ⟨hs, ownsRow_heap hk fun g hg => ?_, ownsRow_heap h.lst fun g hg => ?_, h.lo, h.low.setCell h.lo _, ?_, fun g hg => h.os g (ho g hg), h.ol⟩
  · exact Below.heap_setCell _ _ _ _ (h.stk_ne g (mem_ob.1 (ho g (mem_ob.2 hg))))
  · exact Below.heap_setCell _ _ _ _ (h.lst_ne g hg)
  · exact h.but.setCell (.inl (by simp)) v
theorem RchM.mark (h : RchM wb w0 m M a c str st sv0 lv0 mk sv St lv T w) {k : Nat} (hk : k < 4096) (v : Int) : RchM wb w0 m M a c str st sv0 lv0 (upd1 mk k v) sv St lv T (w.setCell ⟨M, 3 + k, none⟩ (.int .i64 v)) :=
  h.cell _ _ (h.sim.setMark hk v) h.stk fun _ hg => hg
theorem RchM.step (h : RchM wb w0 m M a c str st sv0 lv0 mk sv St lv T w) (v : Int) : RchM wb w0 m M a c str v sv0 lv0 mk sv St lv T (w.setCell ⟨M, 4099, none⟩ (.int .i64 v)) :=
  h.cell _ _ (h.sim.setStep v) h.stk fun _ hg => hg
theorem ob_slice (ad : Option Addr) (n c n' c' : Nat) : ob (.slice ad n c) = ob (.slice ad n' c') := by cases ad <;> rfl
theorem RchM.pop {ad : Option Addr} {n cc k : Nat} (h : RchM wb w0 m M a c str st sv0 lv0 mk (.slice ad n cc) St lv T w) (hn : n = St.length) (hk : k ≤ n) : RchM wb w0 m M a c str st sv0 lv0 mk (.slice ad k cc) (St.take k) lv T (w.setCell ⟨M, 4100, none⟩ (.slice ad k cc)) := by
  subst hn
  have h1 := ownsRow_cut h.stk hk
  have e1 : (St.take k).length = k := by rw [List.length_take]; omega
  refine h.cell _ _ (h.sim.setStack _) ?_ (fun g hg => by rw [ob_slice ad _ cc k cc]; exact hg)
  rw [e1, List.map_take]
  exact h1
theorem RchM.simGrown (h : RchM wb w0 m M a c str st sv0 lv0 mk sv St lv T w) (hg : w.grownBy w' sv.ownBlock) : SimAt w' M a m.L.length c m.lines str mk st sv := h.sim.kept (hg.block M h.sim.lt (fun e => h.stk_ne M e.symm rfl))
theorem RchM.push {v' : Value} {St' : List Nat} (h : RchM wb w0 m M a c str st sv0 lv0 mk sv St lv T w) (hown : w'.ownsRow wb.heap.size 3 1 v' St'.length (St'.map natV)) (hg : w.grownBy w' sv.ownBlock)
    (hnw : ∀ g, v'.ownBlock = some g → sv.ownBlock = some g ∨ w.heap.size ≤ g) : RchM wb w0 m M a c str st sv0 lv0 mk v' St' lv T (w'.setCell ⟨M, 4100, none⟩ v') := by
  have hMs := h.sim.lt
  have hMne : some M ≠ sv.ownBlock := fun e => h.stk_ne M e.symm rfl
  have hsim : SimAt w' M a m.L.length c m.lines str mk st sv := h.sim.kept (hg.block M hMs hMne)
  have hvM : ∀ g, v'.ownBlock = some g → g ≠ M := by
    obtain ⟨CS, hr, -⟩ := hsim
    exact hr.ne_own hown (by decide)
  refine ⟨hsim.setStack v', ?_, ?_, h.lo, ?_, ?_, fun g hgm => ?_, h.ol⟩
  · exact ownsRow_heap hown fun g hgg => Below.heap_setCell _ _ _ _ (hvM g hgg)
  · refine ownsRow_heap h.lst fun g hgg => ?_
    rw [Below.heap_setCell _ _ _ _ (h.lst_ne g hgg)]
    exact hg.block g (h.lst.lt g hgg).2 (fun e => h.apart g e.symm hgg)
  · refine Below.setCell ?_ h.lo _
    exact h.low.grown hg h.low.size (fun j hj => (h.stk.lt j hj).1)
  · refine But.setCell ?_ (.inl (by simp)) _
    refine h.but.trans' ⟨hg.os, hg.tape, hg.output, hg.size, fun k hk hn => ?_⟩
    refine hg.block k (Nat.lt_of_lt_of_le hk h.but.size) (fun e => ?_)
    rcases h.os k (mem_ob.2 e.symm) with h1 | h1
    · exact hn (by simp [h1])
    · omega
  · rcases hnw g (mem_ob.1 hgm) with h1 | h1
    · exact h.os g (mem_ob.2 h1)
    · exact .inr (Nat.le_trans h.but.size h1)
theorem RchM.add {v' : Value} {t : Nat × Nat} (h : RchM wb w0 m M a c str st sv0 lv0 mk sv St lv T w) (hown : w'.ownsRow wb.heap.size 96 2 v' (T.length + 1) (T.flatMap tcells ++ tcells t)) (hg : w.grownBy w' lv.ownBlock)
    (hnw : ∀ g, v'.ownBlock = some g → lv.ownBlock = some g ∨ w.heap.size ≤ g) : RchM wb w0 m M a c str st sv0 lv0 mk sv St v' (T ++ [t]) w' := by
  have hMs := h.sim.lt
  have hMne : some M ≠ lv.ownBlock := fun e => h.lst_ne M e.symm rfl
  refine ⟨h.sim.kept (hg.block M hMs hMne), ?_, ?_, h.lo, ?_, ?_, h.os, fun g hgm => ?_⟩
  · exact ownsRow_heap h.stk fun g hgg => hg.block g (h.stk.lt g hgg).2 (fun e => h.apart g hgg e.symm)
  · rw [List.length_append, List.flatMap_append]
    simpa using hown
  · exact h.low.grown hg h.low.size (fun j hj => (h.lst.lt j hj).1)
  · refine h.but.trans' ⟨hg.os, hg.tape, hg.output, hg.size, fun k hk hn => ?_⟩
    refine hg.block k (Nat.lt_of_lt_of_le hk h.but.size) (fun e => ?_)
    rcases h.ol k (mem_ob.2 e.symm) with h1 | h1
    · exact hn (by simp [h1])
    · omega
  · rcases hnw g (mem_ob.1 hgm) with h1 | h1
    · exact h.ol g (mem_ob.2 h1)
    · exact .inr (Nat.le_trans h.but.size h1)
end
theorem unv_le (mk : Nat → Int) (st : Int) : ∀ n, unv mk st n ≤ n
  | 0 => Nat.le_refl _
  | n + 1 => by
    have := unv_le mk st n
    unfold unv
    split <;> omega
theorem unv_congr {f g : Nat → Int} (st : Int) : ∀ n, (∀ k, k < n → f k = g k) → unv f st n = unv g st n
  | 0, _ => rfl
  | n + 1, h => by
    unfold unv
    rw [unv_congr st n (fun k hk => h k (by omega)), h n (by omega)]
def measW (w : World) (M : Nat) (st : Int) (n : Nat) : Nat := 3 * unv (fun k => match w.cell? ⟨M, 3 + k, none⟩ with | some (.int _ v) => v | _ => 0) st n + (match w.cell? ⟨M, 4100, none⟩ with | some (.slice _ l _) => l | _ => 0)
theorem SimAt.meas {w : World} {M : Nat} {a : Option Addr} {nn c : Nat} {lines : Bool} {str : ByteArray} {mk : Nat → Int} {st st' : Int} {ad : Option Addr} {l cc n : Nat} (h : SimAt w M a nn c lines str mk st (.slice ad l cc)) (hn : n ≤ 4096) : measW w M st' n = 3 * unv mk st' n + l := by
  unfold measW
  rw [h.cells.2.2.2.2]
  have e : unv (fun k => match w.cell? ⟨M, 3 + k, none⟩ with | some (.int _ v) => v | _ => 0) st' n = unv mk st' n := unv_congr st' n fun k hk => by
    rw [h.mark (by omega)]
  rw [e]
theorem own_at {sv : Value} {g n c H : Nat} (h : sv.ownBlock = some g ∨ g = H) : ∀ g', (Value.slice (some ⟨g, 0, none⟩) n c).ownBlock = some g' → sv.ownBlock = some g' ∨ H ≤ g' := by
  intro g' hg'
  have e : g = g' := by simpa [Value.ownBlock] using hg'
  subst e
  rcases h with h | h
  · exact .inl h
  · exact .inr (by omega)
theorem upd_V (mk : Nat → Int) (k : Nat) (st : Int) : (fun j => upd1 mk k st j = st) = (fun j => j = k ∨ mk j = st) := by
  funext j
  unfold upd1
  split
  · rename_i e; simp [e]
  · rename_i e; simp [e]
theorem upd_old {mk0 mk : Nat → Int} {st : Int} (h : ∀ j, mk j = st ∨ mk j = mk0 j) (k : Nat) : ∀ j, upd1 mk k st j = st ∨ upd1 mk k st j = mk0 j := by
  intro j
  unfold upd1
  split
  · exact .inl rfl
  · exact h j
theorem cells7 {w : World} {b f : Nat} {v0 v1 v2 v3 v4 v5 v6 : Value} (h : CellsAt w b f [v0, v1, v2, v3, v4, v5, v6]) :
    w.cell? ⟨b, f, none⟩ = some v0 ∧ w.cell? ⟨b, f + 1, none⟩ = some v1 ∧ w.cell? ⟨b, f + 2, none⟩ = some v2 ∧ w.cell? ⟨b, f + 3, none⟩ = some v3 ∧ w.cell? ⟨b, f + 4, none⟩ = some v4 ∧ w.cell? ⟨b, f + 5, none⟩ = some v5 ∧ w.cell? ⟨b, f + 6, none⟩ = some v6 :=
  ⟨by simpa using h 0 _ rfl, h 1 _ rfl, h 2 _ rfl, h 3 _ rfl, h 4 _ rfl, h 5 _ rfl, h 6 _ rfl⟩
theorem row7 {w : World} {B : Nat} {v0 v1 v2 v3 v4 v5 v6 : Value} {T : TypeId} (h : Row w B [v0, v1, v2, v3, v4, v5, v6] T) :
    w.cell? ⟨B, 0, none⟩ = some v0 ∧ w.cell? ⟨B, 1, none⟩ = some v1 ∧ w.cell? ⟨B, 2, none⟩ = some v2 ∧ w.cell? ⟨B, 3, none⟩ = some v3 ∧ w.cell? ⟨B, 4, none⟩ = some v4 ∧ w.cell? ⟨B, 5, none⟩ = some v5 ∧ w.cell? ⟨B, 6, none⟩ = some v6 :=
  ⟨h.cell 0, h.cell 1, h.cell 2, h.cell 3, h.cell 4, h.cell 5, h.cell 6⟩
end Go.Proofs.Ythnpbopnpdlmnaa

/- What the threads behind a byte are, plainly; the program's charset.Has. -/
namespace Go.Proofs.Ythnpbopnpdlmnaa
open Go.RowKit

set_option maxHeartbeats 400000 in
theorem Has2_any (s : Cs) (c : Nat) (w : World) (hs : s.wf) (hc : c < 256) :
    Calls Try.prog 70 #[.agg #[.int .u64 s.a, .int .u64 s.b, .int .u64 s.c, .int .u64 s.d], .int .u8 c] w fun e w' => e = .returned (.bool (s.has c)) ∧ Below w.heap.size w w' := by
  have h1 : ((c : Int) / 64 = 0 ∨ (c : Int) / 64 = 1 ∨ (c : Int) / 64 = 2 ∨ (c : Int) / 64 = 3) := by omega
  have h0 : (0 : Int) ≤ c ∧ (c : Int) < 256 := by omega
  have h2 : 0 ≤ (c : Int) % 64 ∧ (c : Int) % 64 < 64 := by omega
  rcases h1 with h | h | h | h
  all_goals
    go_enter Try.func70, Try.ntmps70
    go_wp2
    go_ret
    refine ⟨congrArg (fun b => Ending.returned (.bool b)) ((has_bit _ _ ?_).trans ?_), (Below.refl _ _).alloc (Nat.le_refl _) _⟩
    · first | exact hs.a | exact hs.b | exact hs.c | exact hs.d
    · unfold Cs.has Cs.word
      first | (rw [show c / 64 = 0 by omega]; done) | (rw [show c / 64 = 0 by omega]; rfl) | (rw [show c / 64 = 1 by omega]; rfl) | (rw [show c / 64 = 2 by omega]; rfl) | (rw [show c / 64 = 3 by omega]; rfl)
theorem flatT_get : ∀ (L : List (Nat × Nat)) (i j : Nat) (h : i < L.length), j < 2 → (L.flatMap tcells)[i * 2 + j]? = (tcells L[i])[j]?
  | x :: L, 0, j, _, hj => by
    rw [List.flatMap_cons, List.getElem?_append_left (by show _ < 2; omega)]
    simp
  | x :: L, i + 1, j, h, hj => by
    rw [List.flatMap_cons, List.getElem?_append_right (by show 2 ≤ _; omega)]
    have e : (i + 1) * 2 + j - (tcells x).length = i * 2 + j := by show _ - 2 = _; omega
    rw [e, flatT_get L i j (by simpa using h) hj]
    rfl
theorem RchM.again {wb w0 w : World} {m : Sim} {M : Nat} {a : Option Addr} {c : Nat} {str : ByteArray} {st : Int} {sv0 lv0 : Value} {mk : Nat → Int} {sv : Value} {St : List Nat} {lv : Value} {T : List (Nat × Nat)} (h : RchM wb w0 m M a c str st sv0 lv0 mk sv St lv T w) : RchM wb w m M a c str st sv lv mk sv St lv T w :=
  ⟨h.sim, h.stk, h.lst, h.lo, h.low, But.refl _ _, fun _ hg => .inl hg, fun _ hg => .inl hg⟩
theorem RchM.then {wb w0 w w' : World} {m : Sim} {M : Nat} {a : Option Addr} {c : Nat} {str : ByteArray} {st st' : Int} {sv0 lv0 : Value} {mk mk' : Nat → Int} {sv sv' : Value} {St St' : List Nat} {lv lv' : Value} {T T' : List (Nat × Nat)} (h : RchM wb w0 m M a c str st sv0 lv0 mk sv St lv T w)
    (k : RchM wb w m M a c str st' sv lv mk' sv' St' lv' T' w') : RchM wb w0 m M a c str st' sv0 lv0 mk' sv' St' lv' T' w' := by
  have hsz := h.but.size
  refine ⟨k.sim, k.stk, k.lst, k.lo, k.low, h.but.later k.but fun i hi => ?_, fun g hg => ?_, fun g hg => ?_⟩
  · simp only [List.mem_cons, List.mem_append] at hi
    rcases hi with rfl | hi | hi
    · exact .inl (by simp)
    · exact (h.os i hi).imp (fun h1 => by simp [h1]) id
    · exact (h.ol i hi).imp (fun h1 => by simp [h1]) id
  · rcases k.os g hg with h1 | h1
    · exact h.os g h1
    · exact .inr (by omega)
  · rcases k.ol g hg with h1 | h1
    · exact h.ol g h1
    · exact .inr (by omega)
structure Outs (m : Sim) (j : Nat) (S out : List (Nat × Nat)) : Prop where
  nd : (out.map Prod.fst).Nodup
  src : ∀ k f, (k, f) ∈ out → m.leaf k ∧ ∃ S1 x S2, S = S1 ++ (x, f) :: S2 ∧ m.Reach j (· = x) k ∧ ∀ y, y ∈ S1 → ¬ m.Reach j (· = y.1) k
  all : ∀ x f k, (x, f) ∈ S → m.Reach j (· = x) k → m.leaf k → ∃ f', (k, f') ∈ out
  srt : S.Pairwise (fun p q => p.2 ≤ q.2) → out.Pairwise fun p q => p.2 ≤ q.2
theorem Outs.nil (m : Sim) (j : Nat) : Outs m j [] [] where
  nd := List.nodup_nil
  src k f h := absurd h (by simp)
  all x f k h := absurd h (by simp)
  srt _ := List.Pairwise.nil
theorem Outs.add {m : Sim} {j : Nat} {S out : List (Nat × Nat)} (h : Outs m j S out) {news : List Nat} {x fr : Nat} (hn : news.Nodup) (hm : ∀ k, k ∈ news ↔ m.leaf k ∧ m.Reach j (· = x) k ∧ ¬ ∃ s, s ∈ S ∧ m.Reach j (· = s.1) k) :
    Outs m j (S ++ [(x, fr)]) (out ++ news.map fun k => (k, fr)) := by
  have e1 : (news.map fun k => (k, fr)).map Prod.fst = news := by
    rw [List.map_map]
    exact List.map_id' news
  refine ⟨?_, fun k f hk => ?_, fun y f k hy hr hl => ?_, fun hs => ?_⟩
  · rw [List.map_append, e1, List.nodup_append]
    refine ⟨h.nd, hn, fun a ha b hb => ?_⟩
    rintro rfl
    obtain ⟨⟨k, f⟩, hkf, rfl⟩ := List.mem_map.1 ha
    obtain ⟨-, S1, z, S2, hS, hr, -⟩ := h.src k f hkf
    exact ((hm k).1 hb).2.2 ⟨(z, f), by rw [hS]; simp, hr⟩
  · rcases List.mem_append.1 hk with hk | hk
    · obtain ⟨h1, S1, z, S2, hS, hr, hno⟩ := h.src k f hk
      exact ⟨h1, S1, z, S2 ++ [(x, fr)], by rw [hS]; simp, hr, hno⟩
    · obtain ⟨k', hk', e⟩ := List.mem_map.1 hk
      injection e with e2 e3
      subst e2 e3
      obtain ⟨h1, h2, h3⟩ := (hm k').1 hk'
      exact ⟨h1, S, x, [], rfl, h2, fun y hy hry => h3 ⟨y, hy, hry⟩⟩
  · by_cases hex : ∃ s, s ∈ S ∧ m.Reach j (· = s.1) k
    · obtain ⟨s, hs, hsr⟩ := hex
      obtain ⟨f', hf'⟩ := h.all s.1 s.2 k hs hsr hl
      exact ⟨f', List.mem_append.2 (.inl hf')⟩
    · rcases List.mem_append.1 hy with hy | hy
      · exact absurd ⟨(y, f), hy, hr⟩ hex
      · obtain ⟨rfl, rfl⟩ : y = x ∧ f = fr := by simpa using hy
        exact ⟨f, List.mem_append.2 (.inr (List.mem_map.2 ⟨k, (hm k).2 ⟨hl, hr, hex⟩, rfl⟩))⟩
  · rw [List.pairwise_append] at hs ⊢
    refine ⟨h.srt hs.1, ?_, fun a ha b hb => ?_⟩
    · rw [List.pairwise_map]
      exact List.pairwise_iff_forall_sublist.2 fun _ => Nat.le_refl _
    · obtain ⟨k, f⟩ := a
      obtain ⟨-, S1, z, S2, hS, -, -⟩ := h.src k f ha
      obtain ⟨k', -, rfl⟩ := List.mem_map.1 hb
      exact hs.2.2 (z, f) (by rw [hS]; simp) (x, fr) (by simp)
def goes (m : Sim) (i : Nat) (t : Nat × Nat) : Bool := decide ((m.inst t.1).op = 1) && (m.inst t.1).set.has (m.byte i)
def starts (m : Sim) (i : Nat) (kp : Nat × Nat → Bool) (T : List (Nat × Nat)) : List (Nat × Nat) := (T.filter fun t => goes m i t && kp t).map fun t => (t.1 + 1, t.2)
theorem starts_yes {m : Sim} {i : Nat} {kp : Nat × Nat → Bool} {T : List (Nat × Nat)} {q : Nat} (h : q < T.length) (hg : goes m i T[q] = true) (hk : kp T[q] = true) : starts m i kp (T.take (q + 1)) = starts m i kp (T.take q) ++ [(T[q].1 + 1, T[q].2)] := by
  unfold starts
  rw [List.take_add_one, List.getElem?_eq_getElem h, List.filter_append, List.map_append]
  congr 1
  show List.map _ (List.filter _ [T[q]]) = _
  rw [List.filter_cons_of_pos (by simp [hg, hk])]
  rfl
theorem starts_no {m : Sim} {i : Nat} {kp : Nat × Nat → Bool} {T : List (Nat × Nat)} {q : Nat} (h : q < T.length) (hg : goes m i T[q] = false ∨ kp T[q] = false) : starts m i kp (T.take (q + 1)) = starts m i kp (T.take q) := by
  unfold starts
  rw [List.take_add_one, List.getElem?_eq_getElem h, List.filter_append, List.map_append]
  have e : List.filter (fun t => goes m i t && kp t) (some T[q]).toList = [] := by
    show List.filter _ [T[q]] = _
    rw [List.filter_cons_of_neg (by rcases hg with hg | hg <;> simp [hg])]
    rfl
  rw [e]
  simp
end Go.Proofs.Ythnpbopnpdlmnaa
