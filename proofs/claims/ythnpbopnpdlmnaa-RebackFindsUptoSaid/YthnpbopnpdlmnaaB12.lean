/- Equality of sets, and the fields that a node may have. -/
import Derived.Test.YthnpbopnpdlmnaaB03
import Derived.ChangeKeysEq
import Derived.Test.YthnpbopnpdlmnaaB02
namespace Go.Proofs.Ythnpbopnpdlmnaa
open Go.RowKit

theorem info_u64 : (Try.prog.info? 22).map (fun i => (i.zero, i.size, i.bytes)) = some (some (.int .u64 0), 1, 8) := by kernel_rfl
theorem run_eqIn_cs (a b c d a' b' c' d' : Nat) (w : World) : (Op.equalIn 10000 25 (.agg #[.int .u64 a, .int .u64 b, .int .u64 c, .int .u64 d]) (.agg #[.int .u64 a', .int .u64 b', .int .u64 c', .int .u64 d'])).run Try.prog w = .ok (decide ((⟨a, b, c, d⟩ : Cs) = ⟨a', b', c', d'⟩)) w := by
  have hf : (Try.prog.fieldsOf 25).toList = [{ name := "Bits", type := 23, offset := 0, embedded := false, tag := "", pkgPath := "", byteOffset := 0 }] := by kernel_rfl
  obtain ⟨i, hi, _, _, _⟩ := info_parts info_u64
  have hc : Try.prog.cellsOf 22 = 1 := by kernel_rfl
  have key : decide ((⟨a, b, c, d⟩ : Cs) = ⟨a', b', c', d'⟩) = (((a : Int) == a') && ((b : Int) == b') && ((c : Int) == c') && ((d : Int) == d')) := by
    rw [Bool.eq_iff_iff]
    simp [and_assoc]
    omega
  rw [key, run_equalIn_agg _ 9999 25 _ _ (by kernel_rfl) (by kernel_rfl), hf]
  simp [Op.eqFields, go_sem]
  rw [run_equalIn_array _ 9998 _ _ Try.underlying23 hi, hc]
  simp [Op.eqItems, List.range_succ, go_sem]
  by_cases h1 : (a : Int) = a' <;> by_cases h2 : (b : Int) = b' <;> by_cases h3 : (c : Int) = c' <;> by_cases h4 : (d : Int) = d' <;> simp [h1, h2, h3, h4]

/-- Has a node with n arguments the fields of its operator? -/
def Pay.shaped (p : Pay) (n : Nat) : Bool :=
  if p.op = 1 ∨ p.op = 7 ∨ p.op = 8 then decide (n = 0) && (decide (p.lo = 0) && decide (p.hi = 0)) && decide (p.gr = 0) && decide (p.set = Cs.none)
  else if p.op = 2 then decide (n = 0) && (decide (p.lo = 0) && decide (p.hi = 0)) && decide (p.gr = 0) && !decide (p.set = Cs.none)
  else if p.op = 3 ∨ p.op = 4 then decide (2 ≤ n) && (decide (p.lo = 0) && decide (p.hi = 0)) && decide (p.gr = 0) && decide (p.set = Cs.none)
  else if p.op = 5 then decide (n = 1) && decide (p.gr = 0) && decide (p.set = Cs.none)
  else if p.op = 6 then decide (n = 1) && (decide (p.lo = 0) && decide (p.hi = 0)) && decide (p.set = Cs.none)
  else if p.op = 9 then decide (n = 0) && (decide (p.lo = 0) && decide (p.hi = 0)) && decide (p.set = Cs.none)
  else false

theorem eq_none (p : Pay) (w : World) : (Op.equalIn 10000 25 (.agg #[.int .u64 p.set.a, .int .u64 p.set.b, .int .u64 p.set.c, .int .u64 p.set.d]) (.agg #[.int .u64 0, .int .u64 0, .int .u64 0, .int .u64 0])).run Try.prog w = .ok (decide (p.set = Cs.none)) w :=
  run_eqIn_cs p.set.a p.set.b p.set.c p.set.d 0 0 0 0 w

set_option maxRecDepth 100000 in
set_option maxHeartbeats 4000000 in
theorem shapedRef_any (p : Pay) (ad : Option Addr) (n cap : Nat) (w : World) (hn : n ≤ maxLen) (_hop : I64 p.op) :
    Calls Try.prog 45 #[.agg #[.int .i64 p.op, .int .u64 p.set.a, .int .u64 p.set.b, .int .u64 p.set.c, .int .u64 p.set.d, .int .i64 p.lo, .int .i64 p.hi, .int .i64 p.gr, .slice ad n cap]] w fun e w' => e = .returned (.bool (p.shaped n)) ∧ Below w.heap.size w w' := by
  unfold maxLen at hn
  have heq := eq_none p
  have hd : ∃ b, p.shaped n = b := ⟨_, rfl⟩
  obtain ⟨b, hb⟩ := hd
  rw [hb]
  unfold Pay.shaped at hb
  generalize hz : decide (p.set = Cs.none) = z at heq hb
  have HB := hid hb
  clear hb hz
  cases z
  all_goals
    rcases (show p.op = 1 ∨ p.op = 2 ∨ p.op = 3 ∨ p.op = 4 ∨ p.op = 5 ∨ p.op = 6 ∨ p.op = 7 ∨ p.op = 8 ∨ p.op = 9 ∨ ¬ (1 ≤ p.op ∧ p.op ≤ 9) by omega) with h | h | h | h | h | h | h | h | h | h
  all_goals
    go_enter Try.func45, Try.ntmps45
    go_wp2
    all_goals
      go_ret
      refine ⟨ret_bool ?_, (Below.refl _ _).alloc (Nat.le_refl _) _⟩
      have hb := HB.out
      clear HB heq
      rw [Bool.eq_iff_iff, ← hb]
      clear hb
      first | (simp_all; done) | (simp_all; omega)

end Go.Proofs.Ythnpbopnpdlmnaa

/- A set is equal to itself. -/
namespace Go.Proofs.Ythnpbopnpdlmnaa
open Go.RowKit

end Go.Proofs.Ythnpbopnpdlmnaa

/- The reference's SameRe: of one tree at two places it says true. -/
namespace Go.Proofs.Ythnpbopnpdlmnaa
open Go.RowKit
attribute [local go_sem] gives givesUpon

theorem gives_load_agg {P : Program} {o : Oper} {a : Act} {w : World} {K : Value → World → Prop} (ty : TypeId) (x : Operand) (ho : o.op = .load ty x)
    (b f : Nat) (hx : a.eval x = .pointer (some ⟨b, f, none⟩)) (cs : List Value) (d : TypeDesc) (hc : CellsAt w b f cs)
    (hu : P.underlying ty = some d) (hd : (match d with | .struct _ | .array _ _ => true | _ => false) = true) (hi : (P.info? ty).map (·.size) = some cs.length)
    (h : K (.agg cs.toArray) w) : gives P o a w K := by
  have hl : (loadCells ⟨b, f, none⟩ cs.length).run P w = .ok cs.toArray w := run_loadCells_list (P := P) w ⟨b, f, none⟩ cs (fun j v hj => by rw [Addr.add_lit]; exact hc j v hj)
  have hrun : (loadVar ty ⟨b, f, none⟩).run P w = .ok (.agg cs.toArray) w := by
    cases hq : P.info? ty with
    | none => simp [hq] at hi
    | some i =>
      have hs : i.size = cs.length := by simpa [hq] using hi
      have hagg : (isAgg ty).run P w = .ok true w := by
        unfold isAgg
        rw [Sem.run_bind, run_underlying hu w]
        cases d <;> simp_all
      simp [loadVar, Sem.run_bind, hagg, sizeOf, typeInfo, hq, hs, hl]
  unfold gives execOp
  simp only [ho, hx, Instr.loadAt, Instr.sureAddr, Sem.run_bind, Sem.run_pure, Result.andThen_ok, hrun]
  exact h

end Go.Proofs.Ythnpbopnpdlmnaa
