/- Reback: the end of a search keeps the spans. -/
import Derived.Test.YtnnocekencaadaaKat
namespace Go.Proofs.Ytnnocekencaadaa
open Go.RowKit
attribute [local go_sem] gives givesUpon

set_option maxHeartbeats 1000000 in
theorem endB_any (w : World) (G : Nat) (old : Value) (a : Option Addr) (n c : Nat) (h : Row w G [old] 33) :
    Calls Try.prog 45 #[.slice a n c, .pointer (some ⟨G, 0, none⟩)] w fun e w' => e = .returned (.bool true) ∧ Row w' G [.slice a n c] 33 ∧ But [G] w w' ∧ w'.heap.size = w.heap.size := by
  have q := h.cell 0
  have qf := h.free 0
  have HR := hid h
  clear h
  go_enter Try.func45, Try.ntmps45
  go_wp2_with fail
  all_goals (try go_ret)
  all_goals exact ⟨rfl, HR.out.set 0 _, (But.refl _ w).setCell (.inl (by simp)) _, by simp [World.setCell]⟩
variable {C : Ctx}
theorem next_done (n : Nat) : NextC C n .done := by
  intro w sp sv fid cap h
  obtain ⟨h1, h2, h3, h4, h5⟩ := h
  obtain ⟨old, hg⟩ := h1.g
  obtain ⟨a, c, rfl⟩ := h2.form
  cases h4
  refine (endB_any w C.G old a sp.length c hg).mono ?_
  rintro e w' ⟨rfl, hr, hb, hs⟩
  have hb' : But C.S w w' := hb.mono (fun k hk => .inl (by rw [List.mem_singleton.1 hk]; simp [Ctx.S]))
  refine ⟨.found sp, n, .nextDone, rfl, ?_, hb', fun l hl => ?_⟩
  · refine ⟨?_, h1.m.but hb (by simpa using h1.ne), h1.mb.but hb (fun hm => h1.mbS (by simp [Ctx.S] at hm ⊢; exact .inr hm)), ⟨_, hr⟩, h1.oM, h1.oG, h1.nB, h1.big, h1.len, h1.few⟩
    exact h1.below.trans (hb.below h1.below.size (fun k hk => by rw [List.mem_singleton.1 hk]; exact h1.oG))
  · injection hl with hl
    subst hl
    exact ⟨h3, _, hr, h2.but hb'⟩
end Go.Proofs.Ytnnocekencaadaa
