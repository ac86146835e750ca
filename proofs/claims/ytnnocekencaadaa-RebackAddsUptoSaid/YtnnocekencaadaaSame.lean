/- A set is equal to itself. -/
import Derived.Test.YtnnocekencaadaaShape
import Derived.Test.YtnnocekencaadaaInv
import Derived.Test.YtnnocekencaadaaCount
namespace Go.Proofs.Ytnnocekencaadaa
open Go.RowKit

theorem eq_self (s : Cs) (x : World) : (Op.equalIn 10000 25 (.agg #[.int .u64 s.a, .int .u64 s.b, .int .u64 s.c, .int .u64 s.d]) (.agg #[.int .u64 s.a, .int .u64 s.b, .int .u64 s.c, .int .u64 s.d])).run Try.prog x = .ok true x := by
  rw [run_eqIn_cs]; simp
end Go.Proofs.Ytnnocekencaadaa

/- The reference's SameRe: of one tree at two places it says true. -/
namespace Go.Proofs.Ytnnocekencaadaa
open Go.RowKit
attribute [local go_sem] gives givesUpon

theorem gives_load_agg {P : Program} {o : Oper} {a : Act} {w : World} {K : Value → World → Prop} (ty : TypeId) (x : Operand) (ho : o.op = .load ty x)
    (b f : Nat) (hx : a.eval x = .pointer (some ⟨b, f, none⟩)) (cs : List Value) (d : TypeDesc) (hc : CellsAt w b f cs)
    (hu : P.underlying ty = some d) (hd : (match d with | .struct _ | .array _ _ => true | _ => false) = true) (hi : (P.info? ty).map (·.size) = some cs.length)
    (h : K (.agg cs.toArray) w) : gives P o a w K := by
  have hl : (loadCells ⟨b, f, none⟩ cs.length).run P w = .ok cs.toArray w := run_loadCells_list (P := P) w ⟨b, f, none⟩ cs (fun j v hj => by rw [Addr.add_lit]; exact hc j v hj)
  have hrun : (loadVar ty ⟨b, f, none⟩).run P w = .ok (.agg cs.toArray) w := by
    cases hq : P.info? ty with
    | none => simp [hq] at hi
    | some i =>
      have hs : i.size = cs.length := by simpa [hq] using hi
      have hagg : (isAgg ty).run P w = .ok true w := by
        unfold isAgg
        rw [Sem.run_bind, run_underlying hu w]
        cases d <;> simp_all
      simp [loadVar, Sem.run_bind, hagg, sizeOf, typeInfo, hq, hs, hl]
  unfold gives execOp
  simp only [ho, hx, Instr.loadAt, Instr.sureAddr, Sem.run_bind, Sem.run_pure, Result.andThen_ok, hrun]
  exact h

end Go.Proofs.Ytnnocekencaadaa
