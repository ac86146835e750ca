/- The reference's list of instructions: frames, and what an append leaves. -/
import Derived.Test.YtjjhdddlbgdkeaaDoorG10
import Derived.Test.YtjjhdddlbgdkeaaDoorG14
import Derived.Test.YtjjhdddlbgdkeaaDoorG07
namespace Go.Proofs.YtjjhdddlbgdkeaaDoor
open Go.RowKit

mutual
theorem Re.csize_le : ∀ t : Re, t.csize + 2 ≤ 5 * t.size
  | .mk p xs => by
    have h1 := Re.csizes_le xs
    have h2 := Re.asize_le xs
    rw [Re.csize, Re.size_mk]
    by_cases o1 : p.op = 2 ∨ p.op = 7 ∨ p.op = 8
    · rw [if_pos o1]; omega
    rw [if_neg o1]
    by_cases o4 : p.op = 4
    · rw [if_pos o4]; omega
    rw [if_neg o4]
    by_cases o5 : p.op = 5
    · rw [if_pos o5]
      by_cases hl : p.lo = 1
      · rw [if_pos hl]; omega
      · rw [if_neg hl]; split <;> omega
    · rw [if_neg o5]; omega
theorem Re.csizes_le : ∀ xs : List Re, Re.csizes xs ≤ 5 * Re.sizes xs
  | [] => by simp [Re.csizes]
  | t :: ts => by
    have h1 := Re.csize_le t
    have h2 := Re.csizes_le ts
    have h3 : Re.sizes (t :: ts) = t.size + Re.sizes ts := rfl
    rw [Re.csizes, h3]; omega
theorem Re.asize_le : ∀ xs : List Re, Re.asize xs ≤ 5 * Re.sizes xs
  | [] => by simp [Re.asize]
  | t :: ts => by
    have h1 := Re.csize_le t
    have h2 := Re.asize_le ts
    have h3 : Re.sizes (t :: ts) = t.size + Re.sizes ts := rfl
    rw [Re.asize, h3]; split <;> omega
end
theorem Re.psize_le : ∀ xs : List Re, Re.psize xs ≤ 5 * Re.sizes xs
  | [] => by simp [Re.psize]
  | t :: ts => by
    have h1 := Re.csize_le t
    have h2 := Re.psize_le ts
    have h3 : Re.sizes (t :: ts) = t.size + Re.sizes ts := rfl
    rw [Re.psize, h3]; omega
theorem Re.jpos_lt : ∀ (xs : List Re) (n : Nat), ∀ j, j ∈ Re.jpos xs n → j < n + Re.psize xs
  | t :: ts, n, j, h => by
    rw [Re.psize]
    rcases List.mem_cons.1 h with rfl | h
    · omega
    · have := Re.jpos_lt ts _ j h; omega
/-- Only the block go has changed. -/
def FrO (go : Option Nat) (w w' : World) : Prop := ∀ BB, FrB BB go w w'
theorem FrO.refl (go : Option Nat) (w : World) : FrO go w w := fun BB => FrB.refl BB go w
theorem FrO.trans {go go' : Option Nat} {a b c : World} (h : FrO go a b) (hg : GoTo a go go') (k : FrO go' b c) : FrO go a c := fun BB => (h BB).trans hg (k BB)
theorem FrO.of_below {go : Option Nat} {w w' : World} (h : Below w.heap.size w w') : FrO go w w' := fun _ => FrB.of_below h
theorem FrO.size {go : Option Nat} {w w' : World} (h : FrO go w w') : w.heap.size ≤ w'.heap.size := (h 0).size
theorem FrO.below {go : Option Nat} {n : Nat} {w w' : World} (h : FrO go w w') (hn : n ≤ w.heap.size) (h2 : ∀ g, go = some g → n ≤ g) : Below n w w' := (h n).below hn (Nat.le_refl _) h2
theorem FrO.set {w : World} {go : Option Nat} {g : Nat} (hg : go = some g) (i : Nat) (v : Value) : FrO go w (w.setCell ⟨g, i, none⟩ v) := fun BB => by rw [hg]; exact FrB.set i v
theorem OwnI.n {w : World} {base : Nat} {a : Option Addr} {n c : Nat} {L : List Inst} (h : OwnI w base (.slice a n c) L) : n = L.length := by
  obtain ⟨a', c', e⟩ := h.form
  injection e with e1 e2 e3
theorem OwnI.row {w : World} {base : Nat} {a : Option Addr} {n c : Nat} {L : List Inst} (h : OwnI w base (.slice a n c) L) : w.ownsRow base 35 7 (.slice a n c) n (L.flatMap Inst.cells) := by
  have e := h.n
  unfold OwnI at h
  rw [← e] at h
  exact h
theorem FrO.row {w w' : World} {base B : Nat} {v : Value} {L : List Inst} {cs : List Value} {T : TypeId} (h : FrO v.ownBlock w w') (hO : OwnI w base v L) (hr : Row w B cs T) (hT : T ≠ 35) : Row w' B cs T := by
  refine ((h (B + 1)).block B hr.lt (by omega) (fun e => ?_)).trans hr
  rcases hO.2 with ⟨e1, _⟩ | ⟨g2, cap2, cur2, e1, _, e2, _⟩
  · rw [e1] at e; simp [Value.ownBlock] at e
  · rw [e1] at e
    simp [Value.ownBlock] at e
    subst e
    have hr' : w.heap[g2]? = some (.cells cs.toArray T) := hr
    rw [e2] at hr'
    have e := Option.some.inj hr'
    injection e with e3 e4
    exact hT e4.symm
theorem OwnJ.fro {w w' : World} {base b2 : Nat} {v u : Value} {J : List Nat} {L : List Inst} (h : OwnJ w base v J) (hf : FrO u.ownBlock w w') (hO : OwnI w b2 u L) : OwnJ w' base v J := by
  refine ⟨h.1, ?_⟩
  have hlt := h.lt
  rcases h.2 with hn | ⟨g, cap, cur, e, hb1, hgg, rest⟩
  · exact .inl hn
  · have he : v.ownBlock = some g := by rw [e]; rfl
    exact .inr ⟨g, cap, cur, e, hb1, ((hf (g + 1)).block g (hlt g he).2 (by omega) (fun e2 => own_ne hO h g e2 he)).trans hgg, rest⟩
theorem OwnI.keptJ {w w' : World} {base b2 : Nat} {v u : Value} {J : List Nat} {L : List Inst} (h : OwnI w base v L) (hJ : OwnJ w b2 u J) (hg : w.grownBy w' u.ownBlock) : OwnI w' base v L := by
  refine World.ownsRow.kept h hg ?_
  cases hv : v.ownBlock with
  | none => exact .inl rfl
  | some g => exact .inr fun e => own_ne h hJ g hv e.symm
/-- An append of one instruction. -/
theorem OwnI.grew {w w' : World} {base : Nat} {a a' : Option Addr} {n c c' : Nat} {L : List Inst} {I : Inst} (h : OwnI w base (.slice a n c) L) (o : Obj) (hown : w'.ownsRow base 35 7 (.slice a' (n + 1) c') (n + 1) (L.flatMap Inst.cells ++ I.cells)) (hgrow : (w.alloc o).grownBy w' (Value.slice a n c).ownBlock)
    (hnw : ∀ g, (Value.slice a' (n + 1) c').ownBlock = some g → (Value.slice a n c).ownBlock = some g ∨ w.heap.size ≤ g) :
    ∃ LL, LL = L ++ [I] ∧ OwnI w' base (.slice a' (n + 1) c') LL ∧ GoTo w (Value.slice a n c).ownBlock (Value.slice a' (n + 1) c').ownBlock ∧ FrO (Value.slice a n c).ownBlock w w' := by
  have e := h.n
  have hO : OwnI w' base (.slice a' (n + 1) c') (L ++ [I]) := by
    unfold OwnI
    rw [List.length_append, List.flatMap_append, ← e]
    simpa using hown
  refine ⟨_, rfl, hO, ?_, fun BB => ?_⟩
  · have hpos : 0 < n + 1 := by omega
    obtain ⟨g, cap, hv, _, _⟩ := World.ownsRow.form hO (by simp)
    have hg : (Value.slice a' (n + 1) c').ownBlock = some g := by rw [hv]; rfl
    rcases hnw g hg with h1 | h1
    · exact .inl (by rw [hg, h1])
    · exact .inr ⟨g, hg, h1⟩
  · have hal := (Below.refl w.heap.size w).alloc (Nat.le_refl _) o
    exact ⟨hgrow.os.trans hal.os, hgrow.tape.trans hal.tape, hgrow.output.trans hal.output, Nat.le_trans hal.size hgrow.size, fun j hj _ h2 => (hgrow.block j (Nat.lt_of_lt_of_le hj hal.size) (fun e => h2 e.symm)).trans (hal.block j hj)⟩
/-- What the reference's code, alt and rep leave. -/
def RPost (base : Nat) (v : Value) (_c : Nat) (G : Nat → List Inst) (L : List Inst) (w : World) (e : Ending) (w' : World) : Prop :=
  ∃ (a : Option Addr) (n cap : Nat) (LL : List Inst), e = .returned (.slice a n cap) ∧ LL = L ++ G L.length ∧ OwnI w' base (.slice a n cap) LL ∧ GoTo w v.ownBlock (Value.slice a n cap).ownBlock ∧ FrO v.ownBlock w w'
end Go.Proofs.YtjjhdddlbgdkeaaDoor

/- The reference's rep. -/
namespace Go.Proofs.YtjjhdddlbgdkeaaDoor
open Go.RowKit
attribute [local go_sem] gives givesUpon

theorem set_mid (A B : List Inst) (I J : Inst) : (A ++ (I :: B)).set A.length J = A ++ (J :: B) := by simp
theorem OwnI.app {w : World} {base : Nat} {v : Value} {L L' : List Inst} (h : OwnI w base v L) (e : L = L') : OwnI w base v L' := e ▸ h
end Go.Proofs.YtjjhdddlbgdkeaaDoor

/- The reference's alt. -/
namespace Go.Proofs.YtjjhdddlbgdkeaaDoor
open Go.RowKit
attribute [local go_sem] gives givesUpon

theorem setX_at (L : List Inst) (k : Nat) (f : Inst) (v : Int) (h : L[k]? = some f) : L.set k { f with x := v } = setX L k v := by unfold setX; rw [h]
end Go.Proofs.YtjjhdddlbgdkeaaDoor

/- The reference's code. -/
namespace Go.Proofs.YtjjhdddlbgdkeaaDoor
open Go.RowKit
attribute [local go_sem] gives givesUpon

theorem RPost.after {base : Nat} {v : Value} {c : Nat} {G : Nat → List Inst} {L : List Inst} {w : World} {o : Obj} {e : Ending} {w' : World} (h : RPost base v c G L (w.alloc o) e w') : RPost base v c G L w e w' := by
  obtain ⟨a, n, cap, LL, h1, h2, h3, h4, h5⟩ := h
  exact ⟨a, n, cap, LL, h1, h2, h3, FrB.go0 h4, (FrO.of_below ((Below.refl w.heap.size w).alloc (Nat.le_refl _) o)).trans (.inl rfl) h5⟩
end Go.Proofs.YtjjhdddlbgdkeaaDoor

/- A repetition's node; a list of one tree, n times. -/
namespace Go.Proofs.YtjjhdddlbgdkeaaDoor
open Go.RowKit
attribute [local go_sem] gives givesUpon

-- def BL := [.int .i64 p.op, .int .u64 p.set.a, .int .u64 p.set.b, .int .u64 p.set.c, .int .u64 p.set.d, .int .i64 p.lo, .int .i64 p.hi, .int .i64 p.gr, .slice ad m cap]
-- def Z9 := [.int .i64 0, .int .u64 0, .int .u64 0, .int .u64 0, .int .u64 0, .int .i64 0, .int .i64 0, .int .i64 0, .slice none 0 0]
-- def R9 := [.int .i64 5, .int .u64 0, .int .u64 0, .int .u64 0, .int .u64 0, .int .i64 lo, .int .i64 hi, .int .i64 0, .slice (some ⟨w.heap.size + 1 + 1, 0, none⟩) 1 1]
-- def W3 := (((w.alloc (.cells #[.int .i64 p.op, .int .u64 p.set.a, .int .u64 p.set.b, .int .u64 p.set.c, .int .u64 p.set.d, .int .i64 p.lo, .int .i64 p.hi, .int .i64 p.gr, .slice ad m cap] 53)).alloc (.cells #[.int .i64 5, .int .u64 0, .int .u64 0, .int .u64 0, .int .u64 0, .int .i64 lo, .int .i64 hi, .int .i64 0, .slice (some ⟨w.heap.size + 1 + 1, 0, none⟩) 1 1] 53)).alloc (.cells #[.int .i64 p.op, .int .u64 p.set.a, .int .u64 p.set.b, .int .u64 p.set.c, .int .u64 p.set.d, .int .i64 p.lo, .int .i64 p.hi, .int .i64 p.gr, .slice ad m cap] 53))

theorem info_re9 : (Tryd.prog.info? 53).map (fun i => (i.zero, i.size, i.bytes)) = some (some (.agg #[.int .i64 0, .int .u64 0, .int .u64 0, .int .u64 0, .int .u64 0, .int .i64 0, .int .i64 0, .int .i64 0, .slice none 0 0]), 9, 88) := by kernel_rfl

set_option maxRecDepth 100000 in
set_option maxHeartbeats 4000000 in
theorem repeat_any (S : Nat → Prop) (x : Re) (lo hi : Int) (w : World) (cs : List Value) (hx : x.InS S w cs) (hlo : -1 ≤ lo ∧ lo ≤ 64) (hhi : -1 ≤ hi ∧ hi ≤ 64) :
    Calls Tryd.prog 56 #[.agg cs.toArray, .int .i64 lo, .int .i64 hi] w fun e w' => ∃ cs', e = .returned (.agg cs'.toArray) ∧ (x.rept lo hi).InS (fun k => S k ∨ w.heap.size ≤ k) w' cs' ∧ Below w.heap.size w w' := by
  obtain ⟨p, ad, m, cap, rfl⟩ := Re.cells_shape hx.self
  have HX := hid hx
  have HW : Hid (Row (((w.alloc (.cells #[.int .i64 p.op, .int .u64 p.set.a, .int .u64 p.set.b, .int .u64 p.set.c, .int .u64 p.set.d, .int .i64 p.lo, .int .i64 p.hi, .int .i64 p.gr, .slice ad m cap] 53)).alloc (.cells #[.int .i64 5, .int .u64 0, .int .u64 0, .int .u64 0, .int .u64 0, .int .i64 lo, .int .i64 hi, .int .i64 0, .slice (some ⟨w.heap.size + 1 + 1, 0, none⟩) 1 1] 53)).alloc (.cells #[.int .i64 p.op, .int .u64 p.set.a, .int .u64 p.set.b, .int .u64 p.set.c, .int .u64 p.set.d, .int .i64 p.lo, .int .i64 p.hi, .int .i64 p.gr, .slice ad m cap] 53)) (w.heap.size + 1) [.int .i64 5, .int .u64 0, .int .u64 0, .int .u64 0, .int .u64 0, .int .i64 lo, .int .i64 hi, .int .i64 0, .slice (some ⟨w.heap.size + 1 + 1, 0, none⟩) 1 1] 53 ∧ Row (((w.alloc (.cells #[.int .i64 p.op, .int .u64 p.set.a, .int .u64 p.set.b, .int .u64 p.set.c, .int .u64 p.set.d, .int .i64 p.lo, .int .i64 p.hi, .int .i64 p.gr, .slice ad m cap] 53)).alloc (.cells #[.int .i64 5, .int .u64 0, .int .u64 0, .int .u64 0, .int .u64 0, .int .i64 lo, .int .i64 hi, .int .i64 0, .slice (some ⟨w.heap.size + 1 + 1, 0, none⟩) 1 1] 53)).alloc (.cells #[.int .i64 p.op, .int .u64 p.set.a, .int .u64 p.set.b, .int .u64 p.set.c, .int .u64 p.set.d, .int .i64 p.lo, .int .i64 p.hi, .int .i64 p.gr, .slice ad m cap] 53)) (w.heap.size + 1 + 1) [.int .i64 p.op, .int .u64 p.set.a, .int .u64 p.set.b, .int .u64 p.set.c, .int .u64 p.set.d, .int .i64 p.lo, .int .i64 p.hi, .int .i64 p.gr, .slice ad m cap] 53 ∧ Below w.heap.size w (((w.alloc (.cells #[.int .i64 p.op, .int .u64 p.set.a, .int .u64 p.set.b, .int .u64 p.set.c, .int .u64 p.set.d, .int .i64 p.lo, .int .i64 p.hi, .int .i64 p.gr, .slice ad m cap] 53)).alloc (.cells #[.int .i64 5, .int .u64 0, .int .u64 0, .int .u64 0, .int .u64 0, .int .i64 lo, .int .i64 hi, .int .i64 0, .slice (some ⟨w.heap.size + 1 + 1, 0, none⟩) 1 1] 53)).alloc (.cells #[.int .i64 p.op, .int .u64 p.set.a, .int .u64 p.set.b, .int .u64 p.set.c, .int .u64 p.set.d, .int .i64 p.lo, .int .i64 p.hi, .int .i64 p.gr, .slice ad m cap] 53))) :=
    ⟨(Row.new (cs := [.int .i64 5, .int .u64 0, .int .u64 0, .int .u64 0, .int .u64 0, .int .i64 lo, .int .i64 hi, .int .i64 0, .slice (some ⟨w.heap.size + 1 + 1, 0, none⟩) 1 1]) (by simp)).alloc _, Row.new (cs := [.int .i64 p.op, .int .u64 p.set.a, .int .u64 p.set.b, .int .u64 p.set.c, .int .u64 p.set.d, .int .i64 p.lo, .int .i64 p.hi, .int .i64 p.gr, .slice ad m cap]) (by simp), (((Below.refl _ w).alloc (Nat.le_refl _) _).alloc (by simp) _).alloc (by simp; omega) _⟩
  clear hx
  go_enter Tryd.func56, Tryd.ntmps56
  go_wp2_with fail
  refine ret_row 6 53 rfl (w.heap.size + 1) rfl [.int .i64 5, .int .u64 0, .int .u64 0, .int .u64 0, .int .u64 0, .int .i64 lo, .int .i64 hi, .int .i64 0, .slice (some ⟨w.heap.size + 1 + 1, 0, none⟩) 1 1] (CellsAt.of_row (T := 53) HW.out.1) _ Tryd.underlying53 rfl (size_re9 _ _ _ _ _ _ _ _ _) rfl ?_
  have hb := HW.out.2.2
  refine ⟨[.int .i64 5, .int .u64 0, .int .u64 0, .int .u64 0, .int .u64 0, .int .i64 lo, .int .i64 hi, .int .i64 0, .slice (some ⟨w.heap.size + 1 + 1, 0, none⟩) 1 1], rfl, ?_, hb⟩
  exact OwnRes.node (OwnRes.same (n := 1) (base := w.heap.size) HW.out.2.1 (by omega) (by decide) (by simp) (HX.out.step hb.size fun k hk hl => ⟨⟨.inl hk, by omega⟩, hb.block k hl⟩)) (fun k hk => .inr hk) (Pay.ofRep lo hi) (Pay.ofRep_wf ⟨by omega, by omega⟩ ⟨by omega, by omega⟩)

-- def LL := (madeCells #[.int .i64 0, .int .u64 0, .int .u64 0, .int .u64 0, .int .u64 0, .int .i64 0, .int .i64 0, .int .i64 0, .slice none 0 0] (n * 9)).toList
set_option maxRecDepth 100000 in
set_option maxHeartbeats 4000000 in
theorem copies_any (x : Re) (n : Nat) (i : Int) (hin : i = n) (w : World) (cs : List Value) (hx : x.In w cs) (hn64 : n ≤ 64) :
    Calls Tryd.prog 57 #[.agg cs.toArray, .int .i64 i] w fun e w' => ∃ B, e = .returned (.slice (some ⟨B, 0, none⟩) n n) ∧ w.heap.size ≤ B ∧ Row w' B (List.replicate n cs).flatten 53 ∧ Below w.heap.size w w' := by
  subst hin
  obtain ⟨p, ad, m, cap, rfl⟩ := Re.cells_shape hx
  clear hx
  obtain ⟨i0, hi, hz0, hz1, hz2⟩ := info_parts info_re9
  have hmk : ∀ y : World, (Instr.makeSlice 51 (.int .i64 (n : Int)) (.int .i64 (n : Int))).run Tryd.prog y = .ok (.slice (some ⟨y.heap.size, 0, none⟩) n n) (y.alloc (.cells (madeCells #[.int .i64 0, .int .u64 0, .int .u64 0, .int .u64 0, .int .u64 0, .int .i64 0, .int .i64 0, .int .i64 0, .slice none 0 0] (n * 9)) 53)) := fun y => by
    have h := run_makeSlice (P := Tryd.prog) y 51 53 i0 _ Tryd.underlying51 hi hz0 .i64 .i64 n n (by omega) (by omega) (by rw [hz1]; simp; omega) (by rw [hz2]; omega) (by omega)
    rw [hz1] at h
    simpa [Value.cells] using h
  have HMK := hid (fun y : World => Row.new (w := y) (B := y.heap.size) (cs := (madeCells #[.int .i64 0, .int .u64 0, .int .u64 0, .int .u64 0, .int .u64 0, .int .i64 0, .int .i64 0, .int .i64 0, .slice none 0 0] (n * 9)).toList) (T := 53) rfl)
  clear hi hz0 hz1 hz2
  go_enter Tryd.func57, Tryd.ntmps57
  go_wp2_with fail
  go_loopw [6, 11] (fun v i wr => ∃ (k : Nat) (M : List Value), k ≤ n ∧ i = .int .i64 k ∧ Hid (M.length = n * 9 ∧ ∀ i, i < k → ∀ j, j < 9 → M[i * 9 + j]? = ([.int .i64 p.op, .int .u64 p.set.a, .int .u64 p.set.b, .int .u64 p.set.c, .int .u64 p.set.d, .int .i64 p.lo, .int .i64 p.hi, .int .i64 p.gr, .slice ad m cap] : List Value)[j]?) ∧ Hid (Row wr (w.heap.size + 1) M 53 ∧ Row wr w.heap.size [.int .i64 p.op, .int .u64 p.set.a, .int .u64 p.set.b, .int .u64 p.set.c, .int .u64 p.set.d, .int .i64 p.lo, .int .i64 p.hi, .int .i64 p.gr, .slice ad m cap] 53 ∧ Below w.heap.size w wr)) (fun _ i _ => n - (intOf i).toNat)
  case atStart =>
    refine ⟨0, (madeCells #[.int .i64 0, .int .u64 0, .int .u64 0, .int .u64 0, .int .u64 0, .int .i64 0, .int .i64 0, .int .i64 0, .slice none 0 0] (n * 9)).toList, by omega, rfl, ⟨by simp [size_madeCells], fun i hi => by omega⟩, by simpa using HMK.out (w.alloc (.cells #[.int .i64 p.op, .int .u64 p.set.a, .int .u64 p.set.b, .int .u64 p.set.c, .int .u64 p.set.d, .int .i64 p.lo, .int .i64 p.hi, .int .i64 p.gr, .slice ad m cap] 53)), (Row.new (cs := [.int .i64 p.op, .int .u64 p.set.a, .int .u64 p.set.b, .int .u64 p.set.c, .int .u64 p.set.d, .int .i64 p.lo, .int .i64 p.hi, .int .i64 p.gr, .slice ad m cap]) rfl).alloc _, ((Below.refl _ w).alloc (Nat.le_refl _) _).alloc (by simp) _⟩
  case round =>
    obtain ⟨k, M, hk, rfl, HM, HR⟩ := hrel
    have q1 := HR.out.2.1.c9
    have hB := HR.out.2.1.lt
    by_cases hlt : k < n
    · have HTH : Hid (wr.there (w.heap.size + 1) (k * 9) (#[.int .i64 p.op, .int .u64 p.set.a, .int .u64 p.set.b, .int .u64 p.set.c, .int .u64 p.set.d, .int .i64 p.lo, .int .i64 p.hi, .int .i64 p.gr, .slice ad m cap] : Array Value).size) := HR.out.1.there (k * 9) 9 (by rw [HM.out.1]; show k * 9 + 9 ≤ n * 9; omega)
      go_wp2_with (with_reducible (refine wpList_store_mid rfl 53 _ _ rfl (w.heap.size + 1) (k * 9) #[.int .i64 p.op, .int .u64 p.set.a, .int .u64 p.set.b, .int .u64 p.set.c, .int .u64 p.set.d, .int .i64 p.lo, .int .i64 p.hi, .int .i64 p.gr, .slice ad m cap] rfl rfl HTH.out ?ci ?c1 ?_))
      case ci => exact size_re9 _ _ _ _ _ _ _ _ _
      case c1 => simp [Value.oneCell']
      go_roundw
      case rel =>
        obtain ⟨M', h1, h2⟩ := HR.out.1.setCells [.int .i64 p.op, .int .u64 p.set.a, .int .u64 p.set.b, .int .u64 p.set.c, .int .u64 p.set.d, .int .i64 p.lo, .int .i64 p.hi, .int .i64 p.gr, .slice ad m cap] (k * 9)
        have hsame := World.rangeAt_setCells_same wr (w.heap.size + 1) (k * 9) [.int .i64 p.op, .int .u64 p.set.a, .int .u64 p.set.b, .int .u64 p.set.c, .int .u64 p.set.d, .int .i64 p.lo, .int .i64 p.hi, .int .i64 p.gr, .slice ad m cap] HTH.out
        refine ⟨k + 1, M', by omega, by go_num, ⟨by rw [h2, HM.out.1], fun i hi j hj => ?_⟩, h1, HR.out.2.1.otherCells (by omega) _ _, below_setCells (by omega) _ _ _ HR.out.2.2⟩
        by_cases hik : i = k
        · subst hik
          rw [← h1.cell]
          have e := hsame j (([.int .i64 p.op, .int .u64 p.set.a, .int .u64 p.set.b, .int .u64 p.set.c, .int .u64 p.set.d, .int .i64 p.lo, .int .i64 p.hi, .int .i64 p.gr, .slice ad m cap] : List Value)[j]'(by simpa using hj)) (List.getElem?_eq_getElem _)
          rw [e, List.getElem?_eq_getElem]
        · rw [← h1.cell, World.cell?_setCells_out _ _ _ _ _ (fun _ _ => .inl (by show i * 9 + j < k * 9; omega)), HR.out.1.cell]
          exact HM.out.2 i (by omega) j hj
      case measure => simp [intOf]; omega
    · obtain rfl : k = n := by omega
      go_wp2_with fail
      all_goals go_ret
      have hM := flat_same rfl HM.out.1 HM.out.2
      have hr := HR.out.1
      rw [hM] at hr
      exact ⟨w.heap.size + 1, rfl, by omega, hr, HR.out.2.2⟩
end Go.Proofs.YtjjhdddlbgdkeaaDoor
