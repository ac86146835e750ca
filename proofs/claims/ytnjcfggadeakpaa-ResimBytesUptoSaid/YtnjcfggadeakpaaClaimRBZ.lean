/- The statement ResimBytes, second form: for every input of bulk together at most 1048576 the law returns true, and the input reads as before. -/
import Derived.Test.YtnjcfggadeakpaaRows
import Derived.Test.YtnjcfggadeakpaaG34
import Derived.Test.YtnjcfggadeakpaaLaw11BZ
import Derived.WalkKit
import Derived.ProofKit
import Derived.OpenShut
import Derived.JoinedCond
import Derived.Carry
import Derived.ChangeArms
namespace Go.Proofs.Ytnjcfggadeakpaa
open Go.ChangeShapes Go.WideShapes Go.ChangeAt Go.RowKit
set_option linter.unusedVariables false

namespace lawClaimRB
set_option maxHeartbeats 4000000 in
theorem contract (H : Type) (enc : TypeId × Value → H) (W : World) (base : Nat) (args : Array Value) (ds gs : List (DataW H)) (before : List MemPlace)
    (hsl : ∃ n0 n1 n2, args = #[n0, .string n1, .int .i64 n2])
    (hW : DataW.Whole enc Try.prog Try.f7.params.toList Rows.resimBytesSpec.vars false W args.toList ds gs before) (hk : Rows.uptoSmall H (ds ++ gs) = true) :
    Calls Try.prog 7 args W fun e W' => ∃ v, e = .returned v ∧ Rows.resimBytesSpec.post enc Try.prog Try.f7 false true false false W args v W' := by
  obtain ⟨n0, n1, n2, rfl⟩ := hsl
  have hW' := hW
  obtain ⟨p, q, hA0, hV, rfl, hfz, hnd⟩ := hW
  have hA : DataW.TrodAll enc Try.prog W 0 (fun _ => true) true Try.f7.params.toList [n0, .string n1, .int .i64 n2] ds p := hA0
  rw [Try.params7] at hA
  obtain ⟨d0, d1, d2, p0, p1, p2, rfl, rfl, h0, h1, h2⟩ : ∃ d0 d1 d2 p0 p1 p2, ds = [d0, d1, d2] ∧ p = p0 ++ (p1 ++ p2) ∧ DataW.Trod enc Try.prog W 0 (fun _ => true) true 41 (n0) d0 p0 ∧ DataW.Trod enc Try.prog W 0 (fun _ => true) true 9 (.string n1) d1 p1 ∧ DataW.Trod enc Try.prog W 0 (fun _ => true) true 3 (.int .i64 n2) d2 p2 := by
    match ds, hA with
    | [d0, d1, d2], hA =>
      obtain ⟨p0, q0, g0, ⟨p1, q1, g1, ⟨p2, q2, g2, g3, rfl⟩, rfl⟩, rfl⟩ := hA
      have g4 : q2 = [] := g3
      subst g4
      exact ⟨d0, d1, d2, p0, p1, p2, rfl, by simp, g0, g1, g2⟩
  obtain ⟨rfl, rfl⟩ := trodVars_none hV
  have h0k := h0
  have h1k := h1
  have h2k := h2
  obtain ⟨k0, hk0, rfl⟩ := open_csv h0
  have hsz1 := open_str h1
  obtain ⟨fuel2, hf2⟩ := h2
  obtain ⟨m2, hm2, hi2⟩ := open_i64Q hf2
  have e2 : n2 = m2 := by simpa [Value.cells] using hm2
  subst e2
  simp only [List.append_nil] at hW'
  have hlt0 : ∀ x ∈ p0, x.block < W.heap.size := fun x hx => by simpa using hW'.lt x (by simp [hx])
  have hlt1 : ∀ x ∈ p1, x.block < W.heap.size := fun x hx => by simpa using hW'.lt x (by simp [hx])
  have hlt2 : ∀ x ∈ p2, x.block < W.heap.size := fun x hx => by simpa using hW'.lt x (by simp [hx])
  have hk2 : Rows.uptoBulk d0 + Rows.uptoBulk d1 + Rows.uptoBulk d2 ≤ 1048576 := by
    have h := of_decide_eq_true hk
    simp only [List.append_nil, Rows.uptoBulkAll] at h
    omega
  refine (LawBytes_any W k0 n1 n2 hk0 (by omega) hi2.2).mono fun e W' ⟨he, hb⟩ => ?_
  subst he
  refine ⟨_, rfl, [d0, d1, d2], [], p0 ++ (p1 ++ p2), [], p0 ++ (p1 ++ p2), [], hW', ?_, ?_, rfl, hb.frame _, fun h => by cases h⟩
  · exact trodAll_cons_mk (shut_bool Try.underlying4 _) trodAll_mk0
  · exact trodAll_mk3 (Below.trod laidOutQ (by kernel_rfl) (of_decide_eq_true (by kernel_rfl)) h0k hb hlt0) (Below.trod laidOutQ (by kernel_rfl) (of_decide_eq_true (by kernel_rfl)) h1k hb hlt1) (Below.trod laidOutQ (by kernel_rfl) (of_decide_eq_true (by kernel_rfl)) h2k hb hlt2)

set_option maxRecDepth 100000 in
theorem lifted (os : Os) (started : os.Started) (H : Type) (enc : TypeId × Value → H) (F : Stop.Interp) :
    ReturnsInHanded {} Try.checked os 7 .any ((Rows.OpenSpec.upto Rows.resimBytesSpec).pre6 enc Try.prog Try.f7 Rows.resimBytesUptoRow.domain false) (((Rows.OpenSpec.upto Rows.resimBytesSpec).at F).post enc Try.prog Try.f7 false true false false) := by
  refine returnsInHanded_of_cond (C := Try.checked) (s := Rows.OpenSpec.upto Rows.resimBytesSpec) (k := Rows.uptoSmall) rfl ownKnobQ started (by kernel_rfl) Try.func7
    (OpenSpec.witness (enc := enc) (C := Try.checked) (s := Rows.OpenSpec.upto Rows.resimBytesSpec) (k := Rows.uptoSmall) rfl false ⟨#[], #[.agg #[.int .u64 0, .int .u64 0, .int .u64 0, .int .u64 0], .string ⟨#[]⟩, .int .i64 0], []⟩ 8 (by kernel_rfl) (by kernel_rfl) (by kernel_rfl)
      (x := ([.agg [.agg [.lit (.int .u64 0), .lit (.int .u64 0), .lit (.int .u64 0), .lit (.int .u64 0)]], .lit (.string []), .lit (.int .i64 0)], [], [])) (by kernel_rfl) rfl (by kernel_rfl)) ?_
  intro W base args ds gs before hval hW _ hk _
  refine contract H enc W base args ds gs before ?_ hW hk
  have hA0 := hW
  obtain ⟨p, q, hA0, -, -, -, -⟩ := hA0
  have hA : DataW.TrodAll enc Try.prog W 0 (fun _ => true) true Try.f7.params.toList args.toList ds p := hA0
  rw [Try.params7] at hA
  obtain ⟨v0, v1, v2, d0, d1, d2, p0, p1, p2, rfl, rfl, rfl, h0, h1, h2⟩ := trodAll_three hA
  obtain ⟨x1, rfl⟩ := okWide_string Try.underlying9 (hval 1 9 _ rfl rfl)
  obtain ⟨x2, rfl⟩ := okWide_int Try.underlying3 (hval 2 3 _ rfl rfl)
  exact ⟨v0, x1, x2, rfl⟩

theorem over : Rows.resimBytesUptoRow.holds Try.pinned (Rows.OpenSpec.upto Rows.resimBytesSpec) :=
  OpenClaim.holds_of_cond 7 Try.f7 rfl rfl rfl rfl rfl rfl rfl ⟨rfl, rfl, rfl, rfl, rfl⟩ rfl rfl rfl rfl rfl (by kernel_rfl) Try.func7 (by kernel_rfl)
    (of_decide_eq_true (by kernel_rfl)) (by unfold Func.isWrapper; first | (rw [if_pos (by decide +kernel)]; kernel_rfl) | (rw [if_neg (by decide +kernel)]; exact ⟨rfl, rfl⟩))
    (fun os started H enc _ F => lifted os started H enc F)
end lawClaimRB

theorem resimBytes_upto : Rows.ResimBytesUptoSaid := lawClaimRB.over
#print axioms resimBytes_upto
end Go.Proofs.Ytnjcfggadeakpaa
