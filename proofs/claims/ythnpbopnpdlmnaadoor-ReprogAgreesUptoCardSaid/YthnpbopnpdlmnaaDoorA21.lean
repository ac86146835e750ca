/- Ways through the code of a tree, plainly: the code is entered at its beginning, and left at its end alone, at the ends of the tree. -/
import Derived.Test.YthnpbopnpdlmnaaDoorA04
import Derived.Test.YthnpbopnpdlmnaaDoorA17
import Derived.Test.YthnpbopnpdlmnaaDoorA08
import Derived.Test.YthnpbopnpdlmnaaDoorA20
import Derived.Test.YthnpbopnpdlmnaaDoorA03
import Derived.Test.YthnpbopnpdlmnaaDoorA19
namespace Go.Proofs.YthnpbopnpdlmnaaDoor
open Go.RowKit

def Stp (m : Sim) (x z : Nat × Nat) : Prop := (z.1 = x.1 ∧ z.2 ∈ m.eps x.1 x.2) ∨ (z.1 = x.1 + 1 ∧ x.1 < m.s.length ∧ m.takes x.1 x.2 ∧ z.2 = x.2 + 1)
def Pth (m : Sim) : Nat → Nat × Nat → Nat × Nat → Prop
  | 0, x, y => x = y
  | n + 1, x, y => ∃ z, Stp m x z ∧ Pth m n z y
theorem Pth.app {m : Sim} : ∀ {a b : Nat} {x y z : Nat × Nat}, Pth m a x y → Pth m b y z → Pth m (a + b) x z
  | 0, b, x, y, z, h, k => by rw [Pth] at h; subst h; rw [Nat.zero_add]; exact k
  | a + 1, b, x, y, z, h, k => by
    obtain ⟨u, h1, h2⟩ := h
    rw [show a + 1 + b = (a + b) + 1 by omega]
    exact ⟨u, h1, Pth.app h2 k⟩
theorem Pth.one {m : Sim} {x z : Nat × Nat} (h : Stp m x z) : Pth m 1 x z := ⟨z, h, rfl⟩
def CodeAt (m : Sim) (n : Nat) (L : List Inst) : Prop := ∀ k (h : k < L.length), m.inst (n + k) = L[k]
theorem CodeAt.left {m : Sim} {n : Nat} {L M : List Inst} (h : CodeAt m n (L ++ M)) : CodeAt m n L := fun k hk => by
  have := h k (by rw [List.length_append]; omega)
  rwa [List.getElem_append_left hk] at this
theorem CodeAt.right {m : Sim} {n c : Nat} {L M : List Inst} (h : CodeAt m n (L ++ M)) (hc : L.length = c) : CodeAt m (n + c) M := fun k hk => by
  have := h (c + k) (by rw [List.length_append]; omega)
  rw [List.getElem_append_right (by omega)] at this
  rw [Nat.add_assoc, this]
  congr 1
  omega
theorem CodeAt.head {m : Sim} {n : Nat} {f : Inst} {L : List Inst} (h : CodeAt m n (f :: L)) : m.inst n = f := h 0 (by simp)
theorem CodeAt.tail {m : Sim} {n : Nat} {f : Inst} {L : List Inst} (h : CodeAt m n (f :: L)) : CodeAt m (n + 1) L := fun k hk => by
  have := h (k + 1) (by simpa using hk)
  rw [show n + 1 + k = n + (k + 1) by omega, this]
  rfl
theorem Stp.split {m : Sim} {i n x y : Nat} {z : Nat × Nat} (hf : m.inst n = isplit (x : Nat) (y : Nat)) : Stp m (i, n) z ↔ z = (i, x) ∨ z = (i, y) := by
  have ho : (m.inst n).op = 2 := by rw [hf]; rfl
  have hx : (m.inst n).x = (x : Nat) := by rw [hf]; rfl
  have hy : (m.inst n).y = (y : Nat) := by rw [hf]; rfl
  unfold Stp Sim.eps Sim.takes
  rw [if_neg (by rw [ho]; decide), if_pos ho, hx, hy, ho]
  obtain ⟨z1, z2⟩ := z
  simp
  omega
theorem Stp.jump {m : Sim} {i n x : Nat} {z : Nat × Nat} (hf : m.inst n = ijump (x : Nat)) : Stp m (i, n) z ↔ z = (i, x) := by
  have ho : (m.inst n).op = 3 := by rw [hf]; rfl
  have hx : (m.inst n).x = (x : Nat) := by rw [hf]; rfl
  unfold Stp Sim.eps Sim.takes
  rw [if_pos ho, hx, ho]
  obtain ⟨z1, z2⟩ := z
  simp
theorem Stp.set {m : Sim} {i n : Nat} {cs : Cs} {z : Nat × Nat} (hf : m.inst n = ⟨1, cs, 0, 0⟩) : Stp m (i, n) z ↔ (i < m.s.length ∧ cs.has (m.byte i) = true) ∧ z = (i + 1, n + 1) := by
  have ho : (m.inst n).op = 1 := by rw [hf]
  have hs : (m.inst n).set = cs := by rw [hf]
  unfold Stp Sim.eps Sim.takes
  rw [if_neg (by rw [ho]; decide), if_neg (by rw [ho]; decide), if_neg (by rw [ho]; decide), if_neg (by rw [ho]; decide), ho, hs]
  obtain ⟨z1, z2⟩ := z
  simp
  constructor
  · rintro ⟨h1, h2, h3, h4⟩; exact ⟨⟨h2, h3⟩, h1, h4⟩
  · rintro ⟨⟨h2, h3⟩, h1, h4⟩; exact ⟨h1, h2, h3, h4⟩
theorem Stp.begins {m : Sim} {i n : Nat} {z : Nat × Nat} (hf : m.inst n = Inst.of 4) : Stp m (i, n) z ↔ m.begins i = true ∧ z = (i, n + 1) := by
  have ho : (m.inst n).op = 4 := by rw [hf]; rfl
  unfold Stp Sim.eps Sim.takes
  rw [if_neg (by rw [ho]; decide), if_neg (by rw [ho]; decide), if_pos ho, ho]
  obtain ⟨z1, z2⟩ := z
  cases m.begins i <;> simp
theorem Stp.ends {m : Sim} {i n : Nat} {z : Nat × Nat} (hf : m.inst n = Inst.of 5) : Stp m (i, n) z ↔ m.ends i = true ∧ z = (i, n + 1) := by
  have ho : (m.inst n).op = 5 := by rw [hf]; rfl
  unfold Stp Sim.eps Sim.takes
  rw [if_neg (by rw [ho]; decide), if_neg (by rw [ho]; decide), if_neg (by rw [ho]; decide), if_pos ho, ho]
  obtain ⟨z1, z2⟩ := z
  cases m.ends i <;> simp
theorem begins_iff (m : Sim) (i : Nat) : m.begins i = true ↔ (i = 0 ∨ m.lines = true ∧ byteAt m.s (i - 1) = 10) := by
  unfold Sim.begins Sim.byte byteAt
  simp
  constructor
  · rintro (h | ⟨h1, h2⟩)
    · exact .inl h
    · exact .inr ⟨h1, UInt8.toNat_inj.1 (by simpa using h2)⟩
  · rintro (h | ⟨h1, h2⟩)
    · exact .inl h
    · exact .inr ⟨h1, by rw [h2]; rfl⟩
theorem ends_iff (m : Sim) (i : Nat) : m.ends i = true ↔ (i = m.s.length ∨ m.lines = true ∧ byteAt m.s i = 10) := by
  unfold Sim.ends Sim.byte byteAt
  simp
  constructor
  · rintro (h | ⟨h1, h2⟩)
    · exact .inl h
    · exact .inr ⟨h1, UInt8.toNat_inj.1 (by simpa using h2)⟩
  · rintro (h | ⟨h1, h2⟩)
    · exact .inl h
    · exact .inr ⟨h1, by rw [h2]; rfl⟩
section
variable {p : Pay} {xs : List Re} {x : Re} {s : List UInt8} {lines : Bool} {i j : Nat}
theorem Re.E_alt (o : p.op = 4) : (Re.mk p xs).E s lines i j ↔ Re.EAlt s lines xs i j := by rw [Re.E, if_neg (by omega), if_neg (by omega), if_neg (by omega), if_pos o]
theorem Re.E_cat (o : p.op = 3) : (Re.mk p xs).E s lines i j ↔ Re.ECat s lines xs i j := by rw [Re.E, if_neg (by omega), if_neg (by omega), if_pos o]
theorem Re.E_one (o : p.op = 1) : (Re.mk p xs).E s lines i j ↔ j = i := by rw [Re.E, if_pos o]
theorem Re.E_grp (o : p.op = 6) : (Re.mk p [x]).E s lines i j ↔ x.E s lines i j := by rw [Re.E, if_neg (by omega), if_neg (by omega), if_neg (by omega), if_neg (by omega), if_neg (by omega), if_pos o, Re.EFirst]
theorem Re.E_rep (o : p.op = 5) : (Re.mk p [x]).E s lines i j ↔ ∃ n : Nat, p.lo ≤ (n : Int) ∧ (p.hi < 0 ∨ (n : Int) ≤ p.hi) ∧ Iter (x.E s lines) n i j := by
  have e3 : Re.EFirst s lines [x] = x.E s lines := by funext a b; rw [Re.EFirst]
  rw [Re.E, if_neg (by omega), if_neg (by omega), if_neg (by omega), if_neg (by omega), if_pos o, e3]
end
section
variable {m : Sim}
theorem Pth.step {N : Nat} {x y : Nat × Nat} (h : Pth m N x y) (hne : x.2 ≠ y.2) : ∃ N' z, N = N' + 1 ∧ Stp m x z ∧ Pth m N' z y := by
  cases N with
  | zero => rw [Pth] at h; subst h; exact absurd rfl hne
  | succ N => obtain ⟨z, h1, h2⟩ := h; exact ⟨N, z, rfl, h1, h2⟩
mutual
theorem Re.exit : ∀ (t : Re) (n N i J M : Nat), t.nob → t.fine → t.simp1 → CodeAt m n (t.gen n) → Pth m N (i, n) (J, M) → (M < n ∨ n + t.csize ≤ M) → ∃ j N', N' ≤ N ∧ t.E m.s m.lines i j ∧ Pth m N' (j, n + t.csize) (J, M)
  | .mk p xs, n, N, i, J, M, hb, hf, hs, hc, hp, hM => by
    rw [Re.nob] at hb
    rw [Re.fine] at hf
    rw [Re.simp1] at hs
    obtain ⟨⟨hop1, hop8⟩, hb⟩ := hb
    obtain ⟨hf4, hf5, ⟨hf6, hleaf⟩, hf⟩ := hf
    rw [Re.gen] at hc
    rw [Re.csize] at hM ⊢
    by_cases o2 : p.op = 2
    · rw [if_pos o2] at hc
      rw [if_pos (.inl o2)] at hM ⊢
      obtain ⟨N', z, rfl, h1, h2⟩ := hp.step (by dsimp only; omega)
      obtain ⟨⟨h3, h4⟩, rfl⟩ := (Stp.set hc.head).1 h1
      refine ⟨i + 1, N', by omega, ?_, h2⟩
      rw [Re.E, if_neg (by rw [o2]; decide), if_pos o2]
      exact ⟨⟨h3, h4⟩, rfl⟩
    by_cases o7 : p.op = 7
    · rw [if_neg o2, if_pos o7] at hc
      rw [if_pos (.inr (.inl o7))] at hM ⊢
      obtain ⟨N', z, rfl, h1, h2⟩ := hp.step (by dsimp only; omega)
      obtain ⟨h3, rfl⟩ := (Stp.begins hc.head).1 h1
      refine ⟨i, N', by omega, ?_, h2⟩
      rw [Re.E]
      simp only [o7, show ¬ (7 : Int) = 1 by decide, show ¬ (7 : Int) = 2 by decide, show ¬ (7 : Int) = 3 by decide, show ¬ (7 : Int) = 4 by decide, show ¬ (7 : Int) = 5 by decide, show ¬ (7 : Int) = 6 by decide, if_false, if_true]
      exact ⟨(begins_iff m i).1 h3, trivial⟩
    by_cases o8 : p.op = 8
    · rw [if_neg o2, if_neg o7, if_pos o8] at hc
      rw [if_pos (.inr (.inr o8))] at hM ⊢
      obtain ⟨N', z, rfl, h1, h2⟩ := hp.step (by dsimp only; omega)
      obtain ⟨h3, rfl⟩ := (Stp.ends hc.head).1 h1
      refine ⟨i, N', by omega, ?_, h2⟩
      rw [Re.E]
      simp only [o8, show ¬ (8 : Int) = 1 by decide, show ¬ (8 : Int) = 2 by decide, show ¬ (8 : Int) = 3 by decide, show ¬ (8 : Int) = 4 by decide, show ¬ (8 : Int) = 5 by decide, show ¬ (8 : Int) = 6 by decide, show ¬ (8 : Int) = 7 by decide, if_false, if_true]
      exact ⟨(ends_iff m i).1 h3, trivial⟩
    have o278 : ¬ (p.op = 2 ∨ p.op = 7 ∨ p.op = 8) := by omega
    rw [if_neg o2, if_neg o7, if_neg o8] at hc
    rw [if_neg o278] at hM ⊢
    by_cases o4 : p.op = 4
    · rw [if_pos o4] at hc hM ⊢
      obtain ⟨j, N', h1, h2, h3⟩ := Re.exitAlt xs n N i J M (by have := hf4 o4; rintro rfl; simp at this) hb hf hs.2 hc hp hM
      exact ⟨j, N', h1, (Re.E_alt o4).2 h2, h3⟩
    rw [if_neg o4] at hc hM ⊢
    by_cases o5 : p.op = 5
    · rw [if_pos o5] at hc hM ⊢
      obtain ⟨x, rfl⟩ : ∃ x, xs = [x] := List.length_eq_one_iff.1 (hf5 o5)
      have e1 : Re.csizes [x] = x.csize := by rw [Re.csizes, Re.csizes]; rfl
      have e2 : ∀ k, Re.gens [x] k = x.gen k := fun k => by rw [Re.gens, Re.gens, List.append_nil]
      rw [Re.nobs] at hb
      rw [Re.fines] at hf
      have hsx := hs.2
      rw [Re.simps1] at hsx
      rw [e1] at hc hM ⊢
      rw [e2, e2] at hc
      by_cases hl : p.lo = 1
      · rw [if_pos hl] at hc hM ⊢
        have hhi : p.hi = -1 := by have := hs.1 o5; omega
        have hsp := hc.right (Re.gen_len x n)
        have loop : ∀ (N i : Nat), Pth m N (i, n) (J, M) → ∃ j N', N' ≤ N ∧ (∃ c : Nat, 1 ≤ c ∧ Iter (x.E m.s m.lines) c i j) ∧ Pth m N' (j, n + (x.csize + 1)) (J, M) := by
          intro N
          induction N using Nat.strongRecOn with
          | ind N ih =>
            intro i hp
            obtain ⟨j1, N1, h1, h2, h3⟩ := Re.exit x n N i J M hb.1 hf.1 hsx.1 hc.left hp (by omega)
            obtain ⟨N2, z, rfl, h4, h5⟩ := h3.step (by dsimp only; omega)
            rcases (Stp.split hsp.head).1 h4 with rfl | rfl
            · obtain ⟨j, N3, h6, ⟨c, h7, h8⟩, h9⟩ := ih N2 (by omega) j1 h5
              exact ⟨j, N3, by omega, ⟨c + 1, by omega, j1, h2, h8⟩, h9⟩
            · exact ⟨j1, N2, by omega, ⟨1, Nat.le_refl _, j1, h2, rfl⟩, h5⟩
        obtain ⟨j, N', h1, ⟨c, h2, h3⟩, h4⟩ := loop N i hp
        exact ⟨j, N', h1, (Re.E_rep o5).2 ⟨c, by omega, .inl (by omega), h3⟩, h4⟩
      · have hlo : p.lo = 0 ∧ (p.hi = 1 ∨ p.hi = -1) := by have := hs.1 o5; omega
        rw [if_neg hl] at hc hM ⊢
        have hbody := hc.tail
        by_cases hh : p.hi < 0
        · rw [if_pos hh] at hc hM ⊢
          rw [if_pos hh] at hbody
          have hjmp := hbody.right (Re.gen_len x (n + 1))
          have loop : ∀ (N i : Nat), Pth m N (i, n) (J, M) → ∃ j N', N' ≤ N ∧ (∃ c : Nat, Iter (x.E m.s m.lines) c i j) ∧ Pth m N' (j, n + (x.csize + 1 + 1)) (J, M) := by
            intro N
            induction N using Nat.strongRecOn with
            | ind N ih =>
              intro i hp
              obtain ⟨N1, z, rfl, h4, h5⟩ := hp.step (by dsimp only; omega)
              rcases (Stp.split hc.head).1 h4 with rfl | rfl
              · obtain ⟨j1, N2, h1, h2, h3⟩ := Re.exit x (n + 1) N1 i J M hb.1 hf.1 hsx.1 hbody.left h5 (by omega)
                obtain ⟨N3, z, rfl, h6, h7⟩ := h3.step (by dsimp only; omega)
                have h8 := (Stp.jump hjmp.head).1 h6
                subst h8
                obtain ⟨j, N4, h9, ⟨c, h10⟩, h11⟩ := ih N3 (by omega) j1 h7
                exact ⟨j, N4, by omega, ⟨c + 1, j1, h2, h10⟩, h11⟩
              · exact ⟨i, N1, by omega, ⟨0, rfl⟩, by rw [show n + (x.csize + 1 + 1) = n + 1 + x.csize + 1 by omega]; exact h5⟩
          obtain ⟨j, N', h1, ⟨c, h3⟩, h4⟩ := loop N i hp
          exact ⟨j, N', h1, (Re.E_rep o5).2 ⟨c, by omega, .inl hh, h3⟩, h4⟩
        · rw [if_neg hh] at hc hM ⊢
          rw [if_neg hh] at hbody
          obtain ⟨N1, z, rfl, h4, h5⟩ := hp.step (by dsimp only; omega)
          rcases (Stp.split hc.head).1 h4 with rfl | rfl
          · obtain ⟨j1, N2, h1, h2, h3⟩ := Re.exit x (n + 1) N1 i J M hb.1 hf.1 hsx.1 hbody.left h5 (by omega)
            exact ⟨j1, N2, by omega, (Re.E_rep o5).2 ⟨1, by omega, .inr (by omega), j1, h2, rfl⟩, by rw [show n + (x.csize + 1 + 0) = n + 1 + x.csize by omega]; exact h3⟩
          · exact ⟨i, N1, by omega, (Re.E_rep o5).2 ⟨0, by omega, .inr (by omega), rfl⟩, by rw [show n + (x.csize + 1 + 0) = n + 1 + x.csize + 0 by omega]; exact h5⟩
    rw [if_neg o5] at hc hM ⊢
    by_cases o3 : p.op = 3
    · obtain ⟨j, N', h1, h2, h3⟩ := Re.exitCat xs n N i J M hb hf hs.2 hc hp hM
      exact ⟨j, N', h1, (Re.E_cat o3).2 h2, h3⟩
    by_cases o6 : p.op = 6
    · obtain ⟨x, rfl⟩ : ∃ x, xs = [x] := List.length_eq_one_iff.1 (hf6 o6)
      have e1 : Re.csizes [x] = x.csize := by rw [Re.csizes, Re.csizes]; rfl
      have e2 : ∀ k, Re.gens [x] k = x.gen k := fun k => by rw [Re.gens, Re.gens, List.append_nil]
      rw [Re.nobs] at hb
      rw [Re.fines] at hf
      have hsx := hs.2
      rw [Re.simps1] at hsx
      rw [e1] at hM ⊢
      rw [e2] at hc
      obtain ⟨j, N', h1, h2, h3⟩ := Re.exit x n N i J M hb.1 hf.1 hsx.1 hc hp hM
      exact ⟨j, N', h1, (Re.E_grp o6).2 h2, h3⟩
    · have o1 : p.op = 1 := by omega
      have hxs : xs = [] := by rcases hleaf with h | h | h | h | h <;> first | omega | exact h
      subst hxs
      have e1 : Re.csizes [] = 0 := by rw [Re.csizes]
      rw [e1]
      exact ⟨i, N, Nat.le_refl _, (Re.E_one o1).2 rfl, hp⟩
theorem Re.exitCat : ∀ (xs : List Re) (n N i J M : Nat), Re.nobs xs → Re.fines xs → Re.simps1 xs → CodeAt m n (Re.gens xs n) → Pth m N (i, n) (J, M) → (M < n ∨ n + Re.csizes xs ≤ M) → ∃ j N', N' ≤ N ∧ Re.ECat m.s m.lines xs i j ∧ Pth m N' (j, n + Re.csizes xs) (J, M)
  | [], n, N, i, J, M, _, _, _, _, hp, _ => by
    rw [Re.csizes]
    exact ⟨i, N, Nat.le_refl _, by rw [Re.ECat], hp⟩
  | x :: xs, n, N, i, J, M, hb, hf, hs, hc, hp, hM => by
    rw [Re.nobs] at hb
    rw [Re.fines] at hf
    rw [Re.simps1] at hs
    rw [Re.gens] at hc
    rw [Re.csizes] at hM ⊢
    obtain ⟨j1, N1, h1, h2, h3⟩ := Re.exit x n N i J M hb.1 hf.1 hs.1 hc.left hp (by omega)
    obtain ⟨j, N2, h4, h5, h6⟩ := Re.exitCat xs (n + x.csize) N1 j1 J M hb.2 hf.2 hs.2 (hc.right (Re.gen_len x n)) h3 (by omega)
    exact ⟨j, N2, by omega, by rw [Re.ECat]; exact ⟨j1, h2, h5⟩, by rw [← Nat.add_assoc]; exact h6⟩
theorem Re.exitAlt : ∀ (xs : List Re) (n N i J M : Nat), xs ≠ [] → Re.nobs xs → Re.fines xs → Re.simps1 xs → CodeAt m n (Re.galt xs n (n + Re.asize xs)) → Pth m N (i, n) (J, M) → (M < n ∨ n + Re.asize xs ≤ M) → ∃ j N', N' ≤ N ∧ Re.EAlt m.s m.lines xs i j ∧ Pth m N' (j, n + Re.asize xs) (J, M)
  | [], n, N, i, J, M, h, _, _, _, _, _, _ => absurd rfl h
  | [x], n, N, i, J, M, _, hb, hf, hs, hc, hp, hM => by
    rw [Re.nobs] at hb
    rw [Re.fines] at hf
    rw [Re.simps1] at hs
    have e1 : Re.asize [x] = x.csize := by rw [Re.asize]; rfl
    have e2 : ∀ k, Re.galt [x] n k = x.gen n := fun k => by rw [Re.galt]; rfl
    rw [e2] at hc
    rw [e1] at hM ⊢
    obtain ⟨j1, N1, h1, h2, h3⟩ := Re.exit x n N i J M hb.1 hf.1 hs.1 hc hp hM
    exact ⟨j1, N1, h1, by rw [Re.EAlt]; exact .inl h2, h3⟩
  | x :: y :: ys, n, N, i, J, M, _, hb, hf, hs, hc, hp, hM => by
    rw [Re.nobs] at hb
    rw [Re.fines] at hf
    rw [Re.simps1] at hs
    have e1 : Re.asize (x :: y :: ys) = x.csize + (2 + Re.asize (y :: ys)) := by rw [Re.asize]; rfl
    have e2 : ∀ k, Re.galt (x :: y :: ys) n k = isplit (n + 1 : Nat) (n + x.csize + 2 : Nat) :: (x.gen (n + 1) ++ [ijump k] ++ Re.galt (y :: ys) (n + x.csize + 2) k) := fun k => by rw [Re.galt]; rfl
    rw [e1] at hM ⊢
    rw [e2, e1] at hc
    have hb1 := hc.tail
    have hb2 := hb1.right (c := x.csize + 1) (by rw [List.length_append, Re.gen_len]; rfl)
    have hjmp := hb1.left.right (Re.gen_len x (n + 1))
    obtain ⟨N1, z, rfl, h4, h5⟩ := hp.step (by dsimp only; omega)
    rcases (Stp.split hc.head).1 h4 with rfl | rfl
    · obtain ⟨j1, N2, h1, h2, h3⟩ := Re.exit x (n + 1) N1 i J M hb.1 hf.1 hs.1 hb1.left.left h5 (by omega)
      obtain ⟨N3, z, rfl, h6, h7⟩ := h3.step (by dsimp only; omega)
      have h8 := (Stp.jump hjmp.head).1 h6
      subst h8
      exact ⟨j1, N3, by omega, by rw [Re.EAlt]; exact .inl h2, h7⟩
    · have e3 : n + (x.csize + (2 + Re.asize (y :: ys))) = n + x.csize + 2 + Re.asize (y :: ys) := by omega
      rw [show n + 1 + (x.csize + 1) = n + x.csize + 2 by omega, e3] at hb2
      obtain ⟨j, N2, h6, h7, h8⟩ := Re.exitAlt (y :: ys) (n + x.csize + 2) N1 i J M (by simp) hb.2 hf.2 hs.2 hb2 h5 (by omega)
      exact ⟨j, N2, by omega, by rw [Re.EAlt]; exact .inr h7, by rw [e3]; exact h8⟩
end
def Way (m : Sim) (x y : Nat × Nat) : Prop := ∃ N, Pth m N x y
theorem Way.refl (m : Sim) (x : Nat × Nat) : Way m x x := ⟨0, rfl⟩
theorem Way.trans {m : Sim} {x y z : Nat × Nat} (h : Way m x y) (k : Way m y z) : Way m x z := by
  obtain ⟨a, h⟩ := h
  obtain ⟨b, k⟩ := k
  exact ⟨a + b, h.app k⟩
theorem Way.one {m : Sim} {x z : Nat × Nat} (h : Stp m x z) : Way m x z := ⟨1, Pth.one h⟩
mutual
theorem Re.enter : ∀ (t : Re) (n i j : Nat), t.nob → t.fine → t.simp1 → CodeAt m n (t.gen n) → t.E m.s m.lines i j → Way m (i, n) (j, n + t.csize)
  | .mk p xs, n, i, j, hb, hf, hs, hc, he => by
    rw [Re.nob] at hb
    rw [Re.fine] at hf
    rw [Re.simp1] at hs
    obtain ⟨⟨hop1, hop8⟩, hb⟩ := hb
    obtain ⟨hf4, hf5, ⟨hf6, hleaf⟩, hf⟩ := hf
    rw [Re.gen] at hc
    rw [Re.csize]
    rw [Re.E] at he
    by_cases o2 : p.op = 2
    · rw [if_pos o2] at hc
      rw [if_pos (.inl o2)]
      rw [if_neg (by omega), if_pos o2] at he
      obtain ⟨h1, rfl⟩ := he
      exact .one ((Stp.set hc.head).2 ⟨h1, rfl⟩)
    rw [if_neg o2] at hc he
    by_cases o7 : p.op = 7
    · rw [if_pos o7] at hc
      rw [if_pos (.inr (.inl o7))]
      rw [if_neg (by omega), if_neg (by omega), if_neg (by omega), if_neg (by omega), if_neg (by omega), if_pos o7] at he
      obtain ⟨h1, rfl⟩ := he
      exact .one ((Stp.begins hc.head).2 ⟨(begins_iff m j).2 h1, rfl⟩)
    rw [if_neg o7] at hc he
    by_cases o8 : p.op = 8
    · rw [if_pos o8] at hc
      rw [if_pos (.inr (.inr o8))]
      rw [if_neg (by omega), if_neg (by omega), if_neg (by omega), if_neg (by omega), if_neg (by omega), if_pos o8] at he
      obtain ⟨h1, rfl⟩ := he
      exact .one ((Stp.ends hc.head).2 ⟨(ends_iff m j).2 h1, rfl⟩)
    rw [if_neg o8] at hc he
    have o278 : ¬ (p.op = 2 ∨ p.op = 7 ∨ p.op = 8) := by omega
    rw [if_neg o278]
    by_cases o4 : p.op = 4
    · rw [if_pos o4] at hc ⊢
      rw [if_neg (by omega), if_neg (by omega), if_pos o4] at he
      exact Re.enterAlt xs n i j hb hf hs.2 hc he
    rw [if_neg o4] at hc ⊢
    by_cases o5 : p.op = 5
    · rw [if_pos o5] at hc ⊢
      rw [if_neg (by omega), if_neg (by omega), if_neg o4, if_pos o5] at he
      obtain ⟨x, rfl⟩ : ∃ x, xs = [x] := List.length_eq_one_iff.1 (hf5 o5)
      have e1 : Re.csizes [x] = x.csize := by rw [Re.csizes, Re.csizes]; rfl
      have e2 : ∀ k, Re.gens [x] k = x.gen k := fun k => by rw [Re.gens, Re.gens, List.append_nil]
      have e3 : Re.EFirst m.s m.lines [x] = x.E m.s m.lines := by funext a b; rw [Re.EFirst]
      rw [Re.nobs] at hb
      rw [Re.fines] at hf
      have hsx := hs.2
      rw [Re.simps1] at hsx
      rw [e1] at hc ⊢
      rw [e2, e2] at hc
      rw [e3] at he
      obtain ⟨c, hc1, hc2, hit⟩ := he
      by_cases hl : p.lo = 1
      · rw [if_pos hl] at hc ⊢
        have hhi : p.hi = -1 := by have := hs.1 o5; omega
        have hsp := hc.right (Re.gen_len x n)
        have loop : ∀ (c i : Nat), Iter (x.E m.s m.lines) (c + 1) i j → Way m (i, n) (j, n + (x.csize + 1)) := by
          intro c
          induction c with
          | zero =>
            rintro i ⟨k, h1, h2⟩
            rw [Iter] at h2; subst h2
            exact (Re.enter x n i j hb.1 hf.1 hsx.1 hc.left h1).trans (.one ((Stp.split hsp.head).2 (.inr rfl)))
          | succ c ih =>
            rintro i ⟨k, h1, h2⟩
            exact ((Re.enter x n i k hb.1 hf.1 hsx.1 hc.left h1).trans (.one ((Stp.split hsp.head).2 (.inl rfl)))).trans (ih k h2)
        obtain ⟨c', rfl⟩ : ∃ c', c = c' + 1 := ⟨c - 1, by omega⟩
        exact loop c' i hit
      · have hlo : p.lo = 0 ∧ (p.hi = 1 ∨ p.hi = -1) := by have := hs.1 o5; omega
        rw [if_neg hl] at hc ⊢
        have hbody := hc.tail
        by_cases hh : p.hi < 0
        · rw [if_pos hh] at hc ⊢
          rw [if_pos hh] at hbody
          have hjmp := hbody.right (Re.gen_len x (n + 1))
          have loop : ∀ (c i : Nat), Iter (x.E m.s m.lines) c i j → Way m (i, n) (j, n + (x.csize + 1 + 1)) := by
            intro c
            induction c with
            | zero =>
              intro i h
              rw [Iter] at h; subst h
              exact .one ((Stp.split hc.head).2 (.inr (by rw [show n + (x.csize + 1 + 1) = n + 1 + x.csize + 1 by omega])))
            | succ c ih =>
              rintro i ⟨k, h1, h2⟩
              exact (((Way.one ((Stp.split hc.head).2 (.inl rfl))).trans (Re.enter x (n + 1) i k hb.1 hf.1 hsx.1 hbody.left h1)).trans (.one ((Stp.jump hjmp.head).2 rfl))).trans (ih k h2)
          exact loop c i hit
        · rw [if_neg hh] at hc ⊢
          rw [if_neg hh] at hbody
          have hc01 : c = 0 ∨ c = 1 := by omega
          rcases hc01 with rfl | rfl
          · rw [Iter] at hit; subst hit
            exact .one ((Stp.split hc.head).2 (.inr (by rw [show n + (x.csize + 1 + 0) = n + 1 + x.csize + 0 by omega])))
          · obtain ⟨k, h1, h2⟩ := hit
            rw [Iter] at h2; subst h2
            have h3 := (Way.one ((Stp.split hc.head).2 (.inl rfl))).trans (Re.enter x (n + 1) i j hb.1 hf.1 hsx.1 hbody.left h1)
            rw [show n + (x.csize + 1 + 0) = n + 1 + x.csize by omega]
            exact h3
    rw [if_neg o5] at hc ⊢
    by_cases o3 : p.op = 3
    · rw [if_neg (by omega), if_pos o3] at he
      exact Re.enterCat xs n i j hb hf hs.2 hc he
    rw [if_neg o3, if_neg o4, if_neg o5] at he
    by_cases o6 : p.op = 6
    · rw [if_neg (by omega), if_pos o6] at he
      obtain ⟨x, rfl⟩ : ∃ x, xs = [x] := List.length_eq_one_iff.1 (hf6 o6)
      have e1 : Re.csizes [x] = x.csize := by rw [Re.csizes, Re.csizes]; rfl
      have e2 : ∀ k, Re.gens [x] k = x.gen k := fun k => by rw [Re.gens, Re.gens, List.append_nil]
      rw [Re.nobs] at hb
      rw [Re.fines] at hf
      have hsx := hs.2
      rw [Re.simps1] at hsx
      rw [e1]
      rw [e2] at hc
      rw [Re.EFirst] at he
      exact Re.enter x n i j hb.1 hf.1 hsx.1 hc he
    · have o1 : p.op = 1 := by omega
      have hxs : xs = [] := by rcases hleaf with h | h | h | h | h <;> first | omega | exact h
      subst hxs
      rw [if_pos o1] at he
      have e1 : Re.csizes [] = 0 := by rw [Re.csizes]
      rw [e1]
      subst he
      exact .refl m _
theorem Re.enterCat : ∀ (xs : List Re) (n i j : Nat), Re.nobs xs → Re.fines xs → Re.simps1 xs → CodeAt m n (Re.gens xs n) → Re.ECat m.s m.lines xs i j → Way m (i, n) (j, n + Re.csizes xs)
  | [], n, i, j, _, _, _, _, he => by
    rw [Re.ECat] at he; subst he
    rw [Re.csizes]
    exact .refl m _
  | x :: xs, n, i, j, hb, hf, hs, hc, he => by
    rw [Re.nobs] at hb
    rw [Re.fines] at hf
    rw [Re.simps1] at hs
    rw [Re.gens] at hc
    rw [Re.csizes, ← Nat.add_assoc]
    rw [Re.ECat] at he
    obtain ⟨k, h1, h2⟩ := he
    exact (Re.enter x n i k hb.1 hf.1 hs.1 hc.left h1).trans (Re.enterCat xs (n + x.csize) k j hb.2 hf.2 hs.2 (hc.right (Re.gen_len x n)) h2)
theorem Re.enterAlt : ∀ (xs : List Re) (n i j : Nat), Re.nobs xs → Re.fines xs → Re.simps1 xs → CodeAt m n (Re.galt xs n (n + Re.asize xs)) → Re.EAlt m.s m.lines xs i j → Way m (i, n) (j, n + Re.asize xs)
  | [], n, i, j, _, _, _, _, he => by rw [Re.EAlt] at he; exact he.elim
  | [x], n, i, j, hb, hf, hs, hc, he => by
    rw [Re.nobs] at hb
    rw [Re.fines] at hf
    rw [Re.simps1] at hs
    have e1 : Re.asize [x] = x.csize := by rw [Re.asize]; rfl
    have e2 : ∀ k, Re.galt [x] n k = x.gen n := fun k => by rw [Re.galt]; rfl
    rw [e2] at hc
    rw [e1]
    rw [Re.EAlt, Re.EAlt] at he
    rcases he with he | he
    · exact Re.enter x n i j hb.1 hf.1 hs.1 hc he
    · exact he.elim
  | x :: y :: ys, n, i, j, hb, hf, hs, hc, he => by
    rw [Re.nobs] at hb
    rw [Re.fines] at hf
    rw [Re.simps1] at hs
    have e1 : Re.asize (x :: y :: ys) = x.csize + (2 + Re.asize (y :: ys)) := by rw [Re.asize]; rfl
    have e2 : ∀ k, Re.galt (x :: y :: ys) n k = isplit (n + 1 : Nat) (n + x.csize + 2 : Nat) :: (x.gen (n + 1) ++ [ijump k] ++ Re.galt (y :: ys) (n + x.csize + 2) k) := fun k => by rw [Re.galt]; rfl
    rw [e1]
    rw [e2, e1] at hc
    have hb1 := hc.tail
    have hb2 := hb1.right (c := x.csize + 1) (by rw [List.length_append, Re.gen_len]; rfl)
    have hjmp := hb1.left.right (Re.gen_len x (n + 1))
    have e3 : n + (x.csize + (2 + Re.asize (y :: ys))) = n + x.csize + 2 + Re.asize (y :: ys) := by omega
    rw [Re.EAlt] at he
    rcases he with he | he
    · exact ((Way.one ((Stp.split hc.head).2 (.inl rfl))).trans (Re.enter x (n + 1) i j hb.1 hf.1 hs.1 hb1.left.left he)).trans (.one ((Stp.jump hjmp.head).2 rfl))
    · rw [show n + 1 + (x.csize + 1) = n + x.csize + 2 by omega, e3] at hb2
      rw [e3]
      exact (Way.one ((Stp.split hc.head).2 (.inr rfl))).trans (Re.enterAlt (y :: ys) (n + x.csize + 2) i j hb.2 hf.2 hs.2 hb2 he)
end
end
end Go.Proofs.YthnpbopnpdlmnaaDoor

/- A simulation in memory with its stack and a list of threads: what a search may do to it. -/
namespace Go.Proofs.YthnpbopnpdlmnaaDoor
open Go.RowKit

section
variable {wb w0 w w' : World} {m : Sim} {M : Nat} {a : Option Addr} {c : Nat} {str : ByteArray} {st : Int} {sv0 lv0 : Value} {mk : Nat → Int} {sv : Value} {St : List Nat} {lv : Value} {T : List (Nat × Nat)}
end
theorem cells7 {w : World} {b f : Nat} {v0 v1 v2 v3 v4 v5 v6 : Value} (h : CellsAt w b f [v0, v1, v2, v3, v4, v5, v6]) :
    w.cell? ⟨b, f, none⟩ = some v0 ∧ w.cell? ⟨b, f + 1, none⟩ = some v1 ∧ w.cell? ⟨b, f + 2, none⟩ = some v2 ∧ w.cell? ⟨b, f + 3, none⟩ = some v3 ∧ w.cell? ⟨b, f + 4, none⟩ = some v4 ∧ w.cell? ⟨b, f + 5, none⟩ = some v5 ∧ w.cell? ⟨b, f + 6, none⟩ = some v6 :=
  ⟨by simpa using h 0 _ rfl, h 1 _ rfl, h 2 _ rfl, h 3 _ rfl, h 4 _ rfl, h 5 _ rfl, h 6 _ rfl⟩
theorem row7 {w : World} {B : Nat} {v0 v1 v2 v3 v4 v5 v6 : Value} {T : TypeId} (h : Row w B [v0, v1, v2, v3, v4, v5, v6] T) :
    w.cell? ⟨B, 0, none⟩ = some v0 ∧ w.cell? ⟨B, 1, none⟩ = some v1 ∧ w.cell? ⟨B, 2, none⟩ = some v2 ∧ w.cell? ⟨B, 3, none⟩ = some v3 ∧ w.cell? ⟨B, 4, none⟩ = some v4 ∧ w.cell? ⟨B, 5, none⟩ = some v5 ∧ w.cell? ⟨B, 6, none⟩ = some v6 :=
  ⟨h.cell 0, h.cell 1, h.cell 2, h.cell 3, h.cell 4, h.cell 5, h.cell 6⟩
end Go.Proofs.YthnpbopnpdlmnaaDoor

/- What the threads behind a byte are, plainly; the program's charset.Has. -/
namespace Go.Proofs.YthnpbopnpdlmnaaDoor
open Go.RowKit

def goes (m : Sim) (i : Nat) (t : Nat × Nat) : Bool := decide ((m.inst t.1).op = 1) && (m.inst t.1).set.has (m.byte i)
end Go.Proofs.YthnpbopnpdlmnaaDoor

/- The threads of a search, plainly: what they are at an offset, and what a match is. -/
namespace Go.Proofs.YthnpbopnpdlmnaaDoor
open Go.RowKit

def hit (m : Sim) (f j : Nat) : Prop := ∃ k, (m.inst k).op = 6 ∧ m.R f (j - f) k
end Go.Proofs.YthnpbopnpdlmnaaDoor

/- Trees without groups are never too many parses, plainly; and the laws of composing and doubling. -/
namespace Go.Proofs.YthnpbopnpdlmnaaDoor
open Go.RowKit

section
variable (s : List UInt8) (lines : Bool)
end
theorem Re.err_parts {t : Re} (h : t.err = 0) : t.typed = true ∧ (∃ n, t.ranged 0 = some n) ∧ (∃ l, t.named [] = some l) ∧ t.size ≤ 600 ∧ t.groups ≤ 9 ∧ t.levels ≤ 32 := by
  unfold Re.err at h
  cases h1 : t.typed with
  | false => simp [h1] at h
  | true =>
    cases h2 : t.ranged 0 with
    | none => simp [h1, h2] at h
    | some n =>
      cases h3 : t.named [] with
      | none => simp [h1, h2, h3] at h
      | some l =>
        simp only [h1, h2, h3] at h
        have hlim : ¬ (600 < t.size ∨ 9 < t.groups ∨ 32 < t.levels) := by
          intro hx; simp [hx] at h
        exact ⟨rfl, ⟨n, rfl⟩, ⟨l, rfl⟩, by omega, by omega, by omega⟩
end Go.Proofs.YthnpbopnpdlmnaaDoor

/- The program of a tree matches at the ends of the tree, plainly. -/
namespace Go.Proofs.YthnpbopnpdlmnaaDoor
open Go.RowKit

theorem R_way {m : Sim} {a : Nat} : ∀ (n k : Nat), a + n ≤ m.s.length → m.R a n k → Way m (a, 0) (a + n, k)
  | 0, k, _, h => by
    refine Sim.Reach.least (V := fun k => Way m (a, 0) (a + 0, k)) (fun k hk => ?_) (fun k hk j hj => hk.trans (.one (.inl ⟨rfl, hj⟩))) h
    subst hk
    exact .refl m _
  | n + 1, k, hn, h => by
    refine Sim.Reach.least (V := fun k => Way m (a, 0) (a + (n + 1), k)) (fun k hk => ?_) (fun k hk j hj => hk.trans (.one (.inl ⟨rfl, hj⟩))) h
    obtain ⟨j, hj, ht, rfl⟩ := hk
    exact (R_way n j (by omega) hj).trans (.one (.inr ⟨rfl, by show a + n < _; omega, ht, rfl⟩))
theorem R_step {m : Sim} {a n k j : Nat} (h : m.R a n k) (hj : j ∈ m.eps (a + n) k) : m.R a n j := by
  cases n with
  | zero => exact Sim.Reach.step h hj
  | succ n => exact Sim.Reach.step h hj
theorem way_R {m : Sim} {a : Nat} : ∀ (N n0 k0 J K : Nat), m.R a n0 k0 → Pth m N (a + n0, k0) (J, K) → ∃ n, J = a + n ∧ m.R a n K
  | 0, n0, k0, J, K, h, hp => by
    rw [Pth] at hp
    injection hp with h1 h2
    subst h2
    exact ⟨n0, h1.symm, h⟩
  | N + 1, n0, k0, J, K, h, hp => by
    obtain ⟨⟨z1, z2⟩, hs, hp⟩ := hp
    rcases hs with ⟨h1, h2⟩ | ⟨h1, -, h2, h3⟩
    · dsimp only at h1 h2
      subst h1
      exact way_R N n0 z2 J K (R_step h h2) hp
    · dsimp only at h1 h2 h3
      subst h1; subst h3
      exact way_R N (n0 + 1) (k0 + 1) J K (Sim.Reach.base ⟨k0, h, h2, rfl⟩) hp
mutual
theorem Re.nob_of (N : Nat) : ∀ t : Re, t.ok N → t.count (· == 9) = 0 → t.nob
  | .mk p xs, h, hb => by
    rw [Re.ok] at h
    rw [Re.count] at hb
    rw [Re.nob]
    have h9 : ¬ p.op = 9 := by
      intro h9
      rw [h9] at hb
      simp at hb
    exact ⟨by omega, Re.nobs_ok N xs h.2.2.2.2 (by omega)⟩
theorem Re.nobs_ok (N : Nat) : ∀ xs : List Re, Re.oks N xs → Re.counts (· == 9) xs = 0 → Re.nobs xs
  | [], _, _ => by rw [Re.nobs]; trivial
  | x :: xs, h, hb => by
    rw [Re.oks] at h
    rw [Re.counts] at hb
    rw [Re.nobs]
    exact ⟨Re.nob_of N x h.1 (by omega), Re.nobs_ok N xs h.2 (by omega)⟩
end
theorem Re.nob_err {t : Re} (h : t.err = 0) (hb : ¬ 0 < t.backs) : t.nob :=
  Re.nob_of t.groups t (Re.ok_err h).1 (show t.backs = 0 by omega)
theorem Re.expandR_one {t : Re} (h : t.expandR.2 = 0) : t.expandR.1 = t.expand := by
  unfold Re.expandR at h ⊢
  split at h
  · rename_i he; exact absurd h he
  rename_i he
  rw [if_neg he]
  split at h
  · exact absurd (show (3 : Int) = 0 from h) (by decide)
  rename_i hw
  rw [if_neg hw]
theorem hit_E {t : Re} {lines : Bool} {s : List UInt8} (hc : t.compiled.2 = 0) {f j : Nat} (hfj : f ≤ j) (hj : j ≤ s.length) : hit ⟨t.compiled.1, lines, s⟩ f j ↔ t.E s lines f j := by
  obtain ⟨he, hx, hL, hsz, hb⟩ := Re.compiled_zero hc
  have hxe := Re.expandR_one hx
  rw [hxe] at hL hsz
  have hpt := Re.err_parts he
  have hnob := Re.nob_err he hb
  have hfine := Re.typed_fine t hpt.1
  have hokr : t.okr = true := by
    obtain ⟨n, hn⟩ := hpt.2.1
    exact Re.ranged_okr t 0 (by rw [hn]; rfl)
  have hsm := Re.expand_simp t hnob hfine
  have hfx := Re.expand_fine t hfine
  obtain ⟨m, hm⟩ : ∃ m : Sim, m = ⟨t.compiled.1, lines, s⟩ := ⟨_, rfl⟩
  rw [← hm]
  have hmL : m.L = t.expand.gen 0 ++ [Inst.of 6] := by rw [hm]; exact hL
  have hms : m.s = s := by rw [hm]
  have hml : m.lines = lines := by rw [hm]
  have hlen : (t.expand.gen 0).length = t.expand.csize := Re.gen_len _ _
  have hcode : CodeAt m 0 (t.expand.gen 0) := fun k hk => by
    rw [Nat.zero_add, Sim.inst_eq (by rw [hmL, List.length_append]; omega)]
    simp only [hmL]
    exact List.getElem_append_left hk
  have hlast : m.inst t.expand.csize = Inst.of 6 := by
    rw [Sim.inst_eq (by rw [hmL, List.length_append, hlen]; simp)]
    simp only [hmL]
    rw [List.getElem_append_right (by omega)]
    simp
  have honly : ∀ k, (m.inst k).op = 6 → k = t.expand.csize := fun k hk => by
    by_cases hkl : k < m.L.length
    · rw [Sim.inst_eq hkl] at hk
      have hkl2 : k < t.compiled.1.length := by rw [hm] at hkl; exact hkl
      have hk3 : t.compiled.1[k].op = 6 := by
        have : m.L[k] = t.compiled.1[k] := by simp only [hm]
        rw [← this]; exact hk
      have := (Re.compiled_match hc k hkl2).1 hk3
      have hcl := Re.compiled_len hc
      rw [hxe] at hcl
      omega
    · unfold Sim.inst at hk
      rw [List.getD_eq_getElem?_getD, List.getElem?_eq_none (by omega)] at hk
      exact absurd hk (by decide)
  have hEE : t.expand.E s lines f j ↔ t.E s lines f j := Re.E_expand s lines t f j hnob hfine hokr
  rw [← hEE]
  unfold hit
  constructor
  · rintro ⟨k, hk, hr⟩
    obtain rfl := honly k hk
    have hw := R_way (j - f) _ (by rw [hms]; omega) hr
    rw [show f + (j - f) = j by omega] at hw
    obtain ⟨N, hw⟩ := hw
    obtain ⟨j', N', -, h1, h2⟩ := Re.exit t.expand 0 N f j t.expand.csize hsm.1 hfx hsm.2 hcode hw (.inr (by omega))
    rw [Nat.zero_add] at h2
    have : j' = j := by
      cases N' with
      | zero => rw [Pth] at h2; injection h2
      | succ N' =>
        obtain ⟨z, hs, -⟩ := h2
        have ho : (m.inst t.expand.csize).op = 6 := by rw [hlast]; rfl
        rcases hs with ⟨-, hs⟩ | ⟨-, -, hs, -⟩
        · unfold Sim.eps at hs
          dsimp only at hs
          rw [ho] at hs
          simp at hs
        · unfold Sim.takes at hs
          dsimp only at hs
          rw [ho] at hs
          exact absurd hs.1 (by decide)
    subst this
    rw [← hms, ← hml]
    exact h1
  · intro h
    rw [← hms, ← hml] at h
    obtain ⟨N, hw⟩ := Re.enter t.expand 0 f j hsm.1 hfx hsm.2 hcode h
    rw [Nat.zero_add] at hw
    have h0 : m.R f 0 0 := Sim.Reach.base rfl
    obtain ⟨n, hn, hr⟩ := way_R N 0 0 j _ h0 hw
    refine ⟨t.expand.csize, by rw [hlast]; rfl, ?_⟩
    rw [show j - f = n by omega]
    exact hr
end Go.Proofs.YthnpbopnpdlmnaaDoor
