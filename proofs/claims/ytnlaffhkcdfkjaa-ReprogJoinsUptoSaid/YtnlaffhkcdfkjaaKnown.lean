/- What the program knows of a tree: known, Nullable, Length, First. -/
import Derived.Test.YtnlaffhkcdfkjaaLearnGo
import Derived.Test.YtnlaffhkcdfkjaaCheckEnd
import Derived.RegionTactic
import Derived.ChangeAlike
import Derived.BigRegion
import Derived.Deep.QuietTactic
import Derived.BigQuiet
namespace Go.Proofs.Ytnlaffhkcdfkjaa
open Go.RowKit
attribute [local go_sem] gives givesUpon

-- def BOX := .cells #[.int .i64 p.op, .int .u64 p.set.a, .int .u64 p.set.b, .int .u64 p.set.c, .int .u64 p.set.d, .int .i64 p.lo, .int .i64 p.hi, .int .i64 p.gr, .slice ad xs.length cap] 28
-- def BL := [.int .i64 p.op, .int .u64 p.set.a, .int .u64 p.set.b, .int .u64 p.set.c, .int .u64 p.set.d, .int .i64 p.lo, .int .i64 p.hi, .int .i64 p.gr, .slice ad xs.length cap]
-- def C0 := [.bool false, .int .i64 0, .int .i64 0, .int .u64 0, .int .u64 0, .int .u64 0, .int .u64 0]
-- def Z4 := [.int .u64 0, .int .u64 0, .int .u64 0, .int .u64 0]
-- def W2C := ((w.alloc (.cells #[.int .i64 p.op, .int .u64 p.set.a, .int .u64 p.set.b, .int .u64 p.set.c, .int .u64 p.set.d, .int .i64 p.lo, .int .i64 p.hi, .int .i64 p.gr, .slice ad xs.length cap] 28)).alloc (.cells #[.int .u64 0, .int .u64 0, .int .u64 0, .int .u64 0] 25))

theorem Pay.reps_of {p : Pay} (h : ¬ (p.op = 5 ∧ p.badRep = true)) (h5 : p.op = 5) : (-1 ≤ p.lo ∧ p.lo ≤ 64) ∧ -1 ≤ p.hi ∧ p.hi ≤ 64 := by
  have hb : p.badRep = false := by
    cases hx : p.badRep with
    | true => exact absurd ⟨h5, hx⟩ h
    | false => rfl
  unfold Pay.badRep at hb
  simp at hb
  omega
mutual
theorem Re.ranged_reps : ∀ (t : Re) (b : Nat), (t.ranged b).isSome = true → t.reps = true
  | .mk p xs, b, h => by
    rw [Re.ranged] at h
    rw [Re.reps]
    split at h
    · cases h
    · rename_i h5
      have e1 := decide_eq_true (p := p.op = 5 → (-1 ≤ p.lo ∧ p.lo ≤ 64) ∧ -1 ≤ p.hi ∧ p.hi ≤ 64) (fun e => Pay.reps_of h5 e)
      rw [e1]
      split at h
      · split at h
        · rw [Re.rangeds_reps xs _ h]; rfl
        · cases h
      · rw [Re.rangeds_reps xs _ h]; rfl
theorem Re.rangeds_reps : ∀ (xs : List Re) (b : Nat), (Re.rangeds xs b).isSome = true → Re.repss xs = true
  | [], b, h => by rw [Re.repss]
  | t :: ts, b, h => by
    rw [Re.rangeds] at h
    rw [Re.repss]
    cases hx : t.ranged b with
    | none => rw [hx] at h; cases h
    | some n =>
      rw [hx] at h
      rw [Re.ranged_reps t b (by rw [hx]; rfl), Re.rangeds_reps ts n h]
      rfl
end
theorem Re.err_zero {t : Re} (h : t.err = 0) : t.typed = true ∧ t.reps = true ∧ (t.ranged 0).isSome = true ∧ (t.named []).isSome = true ∧ t.size ≤ 600 ∧ t.groups ≤ 9 ∧ t.levels ≤ 32 := by
  unfold Re.err at h
  cases h1 : t.typed with
  | false => simp [h1] at h
  | true =>
    cases h2 : t.ranged 0 with
    | none => simp [h1, h2] at h
    | some n =>
      cases h3 : t.named [] with
      | none => simp [h1, h2, h3] at h
      | some l =>
        simp only [h1, h2, h3] at h
        refine ⟨rfl, Re.ranged_reps t 0 (by rw [h2]; rfl), rfl, rfl, ?_⟩
        by_cases hx : 600 < t.size ∨ 9 < t.groups ∨ 32 < t.levels
        · simp [hx] at h
        · omega

/-- What is known of a tree: nothing if it is not valid. -/
def Re.facts (t : Re) : Facts := if t.err = 0 then (t.learn (fun _ => none)).1 else Facts.zero
theorem Re.facts_zero {t : Re} (h : ¬ t.err = 0) : t.facts = Facts.zero := by unfold Re.facts; rw [if_neg h]
theorem Re.facts_some {t : Re} (h : t.err = 0) : t.facts = (t.learn (fun _ => none)).1 := by unfold Re.facts; rw [if_pos h]


/-- Two results: a struct in a block of the call's own, and a slot. -/
theorem ret_row2 {P : Program} {fn : Func} {R : Ending → World → Prop} {a : Act} {w : World} (p : Tmp) (ty : TypeId) (q : Tmp) (h : fn.results = #[.cell p ty, .tmp q]) (b : Nat) (hp : a.tmps.getD p undef = .pointer (some ⟨b, 0, none⟩)) (cs : List Value) (hc : CellsAt w b 0 cs) (d : TypeDesc)
    (hu : P.underlying ty = some d) (hd : (match d with | .struct _ | .array _ _ => true | _ => false) = true) (hi : (P.info? ty).map (·.size) = some cs.length) (hdf : a.defers = []) (hR : R (.returned (.tuple #[.agg cs.toArray, a.tmps.getD q undef])) w) : bodyPost P fn R .ret a w := by
  refine bodyPost_ret (v := .tuple #[.agg cs.toArray, a.tmps.getD q undef]) ?_ hdf hR
  have hl : (loadCells ⟨b, 0, none⟩ cs.length).run P w = .ok cs.toArray w := run_loadCells_list (P := P) w ⟨b, 0, none⟩ cs (fun j v hv => by rw [Addr.add_lit]; exact hc j v hv)
  have hrun : (loadVar ty ⟨b, 0, none⟩).run P w = .ok (.agg cs.toArray) w := by
    cases hq : P.info? ty with
    | none => simp [hq] at hi
    | some i =>
      have hs : i.size = cs.length := by simpa [hq] using hi
      have hagg : (isAgg ty).run P w = .ok true w := by
        unfold isAgg
        rw [Sem.run_bind, run_underlying hu w]
        cases d <;> simp_all
      simp [loadVar, Sem.run_bind, hagg, sizeOf, typeInfo, hq, hs, hl]
  have hp' : a.tmps[p]?.getD undef = .pointer (some ⟨b, 0, none⟩) := by simpa using hp
  simp [results, h, hp', asAddr, hrun]



end Go.Proofs.Ytnlaffhkcdfkjaa
