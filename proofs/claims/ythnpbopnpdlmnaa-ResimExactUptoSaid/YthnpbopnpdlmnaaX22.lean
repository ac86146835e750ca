/- What the simulation's Search and Longest find. -/
import Derived.Test.YthnpbopnpdlmnaaX21
import Derived.Test.YthnpbopnpdlmnaaX13
import Derived.Test.YthnpbopnpdlmnaaX17
import Derived.Test.YthnpbopnpdlmnaaX10
import Derived.Test.YthnpbopnpdlmnaaX07
namespace Go.Proofs.Ythnpbopnpdlmnaa
open Go.RowKit

def SrIs (m : Sim) (at_ : Int) (b : Option (Nat × Nat)) : Prop := ((¬ rightAll m.L ∨ at_ < 0 ∨ (m.s.length : Int) < at_) ∧ b = none) ∨ (rightAll m.L ∧ ∃ f : Nat, at_ = f ∧ f ≤ m.s.length ∧ Best m f (m.s.length + 1) b)
theorem SrPost.val {m : Sim} {w w' : World} {at_ : Int} {e : Ending} (h : SrPost m w at_ e w') : Below w.heap.size w w' ∧ ∃ b, SrIs m at_ b ∧ e = .returned (.tuple #[.agg #[.int .i64 (b.getD (0, 0)).1, .int .i64 (b.getD (0, 0)).2], .bool b.isSome]) := by
  obtain ⟨h1, ⟨h2, h3⟩ | ⟨h2, f, b, h3, h4, h5, h6⟩⟩ := h
  · exact ⟨h1, none, .inl ⟨h2, rfl⟩, h3⟩
  · exact ⟨h1, b, .inr ⟨h2, f, h3, h4, h5⟩, h6⟩
def LgIs (m : Sim) (at_ : Int) (b : Option Nat) : Prop := ((¬ rightAll m.L ∨ at_ < 0 ∨ (m.s.length : Int) < at_) ∧ b = none) ∨ (rightAll m.L ∧ ∃ f : Nat, at_ = f ∧ f ≤ m.s.length ∧ Long m f (m.s.length + 1) b)
theorem LgPost.val {m : Sim} {w w' : World} {at_ : Int} {e : Ending} (h : LgPost m w at_ e w') : Below w.heap.size w w' ∧ ∃ b, LgIs m at_ b ∧ e = .returned (.tuple #[.int .i64 (b.getD 0 : Nat), .bool b.isSome]) := by
  obtain ⟨h1, ⟨h2, h3⟩ | ⟨h2, f, b, h3, h4, h5, h6⟩⟩ := h
  · exact ⟨h1, none, .inl ⟨h2, rfl⟩, h3⟩
  · exact ⟨h1, b, .inr ⟨h2, f, h3, h4, h5⟩, h6⟩
end Go.Proofs.Ythnpbopnpdlmnaa

/- How many spans are handed out. -/
namespace Go.Proofs.Ythnpbopnpdlmnaa
open Go.RowKit

end Go.Proofs.Ythnpbopnpdlmnaa

/- The program of a tree finds what the tree's parses say, plainly. -/
namespace Go.Proofs.Ythnpbopnpdlmnaa
open Go.RowKit

theorem chk_range {t : Re} {s : ByteArray} {at_ : Int} (he : t.err = 0) : (chk t s at_ = 0 ∧ 0 ≤ at_ ∧ at_ ≤ s.size) ∨ (chk t s at_ = 2 ∧ (at_ < 0 ∨ (s.size : Int) < at_)) := by
  unfold chk
  rw [if_neg (by simpa using he)]
  by_cases h : at_ < 0 ∨ (s.size : Int) < at_
  · rw [if_pos h]; exact .inr ⟨rfl, h⟩
  · rw [if_neg h]; exact .inl ⟨rfl, by omega, by omega⟩
theorem parses_hit {t : Re} {lines : Bool} {s : ByteArray} {f : Nat} (hc : t.compiled.2 = 0) (hf : f ≤ s.size) {l : List Parse} (hl : parses s.data.toList lines t f (unsetAll t.groups) = some l) :
    (∀ j, f ≤ j → j ≤ s.size → (hit ⟨t.compiled.1, lines, s.data.toList⟩ f j ↔ Has l j)) ∧ (∀ j, Has l j → f ≤ j ∧ j ≤ s.size) := by
  have hsl : s.data.toList.length = s.size := by rw [Array.length_toList]; rfl
  obtain ⟨he, hx, hL, hsz, hb⟩ := Re.compiled_zero hc
  have hnob := Re.nob_err he hb
  have hE := parses_E s.data.toList lines t f _ l hnob (by omega) hl
  refine ⟨fun j h1 h2 => by rw [hit_E hc h1 (by omega), hE], fun j hj => ?_⟩
  have := Re.E_le s.data.toList lines t f j (by omega) ((hE j).1 hj)
  omega
theorem at_long {t : Re} {lines : Bool} {s : ByteArray} {f : Nat} (hc : t.compiled.2 = 0) (hf : f ≤ s.size) {b : Option Nat} (hb : Long ⟨t.compiled.1, lines, s.data.toList⟩ f (s.size + 1) b) (hr : (atR (parsesR t s f lines) f).2.2 = 0) :
    (atR (parsesR t s f lines) f).2.1 = b.isSome ∧ ∀ e, b = some e → ∃ sp, (atR (parsesR t s f lines) f).1 = ((f : Int), (e : Int)) :: sp := by
  obtain ⟨he, hx, hL, hsz, hbk⟩ := Re.compiled_zero hc
  revert hr
  unfold parsesR
  rcases chk_range (s := s) (at_ := f) he with ⟨h0, h1, h2⟩ | ⟨h0, h1⟩
  · rw [if_neg (by simpa using h0), show ((f : Nat) : Int).toNat = f by omega]
    cases hl : parses s.data.toList lines t f (unsetAll t.groups) with
    | none => intro hr; exact absurd (show (11 : Int) = 0 from hr) (by decide)
    | some l =>
      intro _
      obtain ⟨hh, hle⟩ := parses_hit hc hf hl
      have hn := parses_neat hl
      have hu : Long ⟨t.compiled.1, lines, s.data.toList⟩ f (s.size + 1) (l.head?.map Prod.fst) := by
        cases l with
        | nil => intro j h3 h4; rw [hh j h3 (by omega)]; exact has_nil j
        | cons q l =>
          have hq : Has (q :: l) q.1 := ⟨q, by simp, rfl⟩
          have hq2 := hle _ hq
          refine ⟨hq2.1, by omega, (hh _ hq2.1 hq2.2).2 hq, fun j h3 h4 => ?_⟩
          rw [hh j (by omega) (by omega)]
          rintro ⟨z, hz, rfl⟩
          rcases List.mem_cons.1 hz with rfl | hz
          · omega
          · have := (List.pairwise_cons.1 hn.1).1 z hz; omega
      have := hb.unique hu
      subst this
      cases l with
      | nil => exact ⟨rfl, fun e h => (by cases h)⟩
      | cons q l => exact ⟨rfl, fun e h => by simp at h; subst h; exact ⟨q.2, rfl⟩⟩
  · rw [if_pos (by rw [h0]; decide)]
    omega
theorem left_best {t : Re} {lines : Bool} {s : ByteArray} {lo : Nat} (hc : t.compiled.2 = 0) {b : Option (Nat × Nat)} (hb : Best ⟨t.compiled.1, lines, s.data.toList⟩ lo (s.size + 1) b) :
    ∀ (d i : Nat), i + d = s.size + 1 → lo ≤ i → (∀ f j, lo ≤ f → f < i → f ≤ j → j < s.size + 1 → ¬ hit ⟨t.compiled.1, lines, s.data.toList⟩ f j) → (leftR t s lines d i).2.2 = 0 →
      (leftR t s lines d i).2.1 = b.isSome ∧ ∀ x, b = some x → ∃ sp, (leftR t s lines d i).1 = ((x.1 : Int), (x.2 : Int)) :: sp
  | 0, i, hd, hlo, hno, hr => by
    have hu : Best ⟨t.compiled.1, lines, s.data.toList⟩ lo (s.size + 1) none := fun f j h1 h2 h3 => hno f j h1 (by omega) h2 h3
    have := hb.unique hu
    subst this
    exact ⟨rfl, fun x h => (by cases h)⟩
  | d + 1, i, hd, hlo, hno, hr => by
    have hle : i ≤ s.size := by omega
    rw [leftR] at hr ⊢
    obtain ⟨he, hx, hL, hsz, hbk⟩ := Re.compiled_zero hc
    by_cases hcase : (atR (parsesR t s i lines) i).2.1 = true ∨ (atR (parsesR t s i lines) i).2.2 ≠ 0
    · rw [if_pos hcase] at hr ⊢
      have h21 : (atR (parsesR t s i lines) i).2.1 = true := hcase.resolve_right (fun h => h hr)
      have hl : ∃ l, parses s.data.toList lines t i (unsetAll t.groups) = some l ∧ atR (parsesR t s i lines) i = atR (l, 0) i := by
        have h0 : chk t s i = 0 := by
          rcases chk_range (s := s) (at_ := i) he with ⟨h0, -⟩ | ⟨-, h1⟩
          · exact h0
          · omega
        have e : parsesR t s i lines = match parses s.data.toList lines t i (unsetAll t.groups) with
            | none => ([], 11)
            | some l => (l, 0) := by
          unfold parsesR
          rw [if_neg (by simpa using h0), show ((i : Nat) : Int).toNat = i by omega]
          rfl
        rw [e] at h21 ⊢
        cases hl : parses s.data.toList lines t i (unsetAll t.groups) with
        | none => rw [hl] at h21; exact absurd (show false = true from h21) (by decide)
        | some l => exact ⟨l, rfl, rfl⟩
      obtain ⟨l, hl, hat⟩ := hl
      rw [hat] at h21 ⊢
      obtain ⟨hh, hlj⟩ := parses_hit hc hle hl
      have hn := parses_neat hl
      cases l with
      | nil => exact absurd (show false = true from h21) (by decide)
      | cons q l =>
        have hq : Has (q :: l) q.1 := ⟨q, by simp, rfl⟩
        have hq2 := hlj _ hq
        have hu : Best ⟨t.compiled.1, lines, s.data.toList⟩ lo (s.size + 1) (some (i, q.1)) := by
          refine ⟨hlo, hq2.1, by omega, (hh _ hq2.1 hq2.2).2 hq, fun j h3 h4 => ?_, fun f j h1 h2 h3 h4 => hno f j h1 h2 h3 h4⟩
          rw [hh j (by omega) (by omega)]
          rintro ⟨z, hz, rfl⟩
          rcases List.mem_cons.1 hz with rfl | hz
          · omega
          · have := (List.pairwise_cons.1 hn.1).1 z hz; omega
        have := hb.unique hu
        subst this
        exact ⟨rfl, fun x h => by injection h with h; subst h; exact ⟨q.2, rfl⟩⟩
    · rw [if_neg hcase] at hr ⊢
      refine left_best hc hb d (i + 1) (by omega) (by omega) (fun f j h1 h2 h3 h4 => ?_) hr
      by_cases hfi : f < i
      · exact hno f j h1 hfi h3 h4
      obtain rfl : f = i := by omega
      have hz : (atR (parsesR t s f lines) f).2.2 = 0 := Classical.byContradiction fun h => hcase (.inr h)
      have hfl : (atR (parsesR t s f lines) f).2.1 = false := by
        cases hv : (atR (parsesR t s f lines) f).2.1 with
        | true => exact absurd (.inl hv) hcase
        | false => rfl
      have h0 : chk t s f = 0 := by
        rcases chk_range (s := s) (at_ := f) he with ⟨h0, -⟩ | ⟨-, h1⟩
        · exact h0
        · omega
      have e : parsesR t s f lines = match parses s.data.toList lines t f (unsetAll t.groups) with
          | none => ([], 11)
          | some l => (l, 0) := by
        unfold parsesR
        rw [if_neg (by simpa using h0), show ((f : Nat) : Int).toNat = f by omega]
        rfl
      rw [e] at hz hfl
      cases hl : parses s.data.toList lines t f (unsetAll t.groups) with
      | none => rw [hl] at hz; exact absurd (show (11 : Int) = 0 from hz) (by decide)
      | some l =>
        rw [hl] at hfl
        obtain ⟨hh, -⟩ := parses_hit hc hle hl
        rw [hh j h3 (by omega)]
        cases l with
        | nil => exact has_nil j
        | cons q l => exact absurd (show true = false from hfl) (by decide)
theorem exact_at {t : Re} {lines : Bool} {s : ByteArray} {at_ : Int} (hc : t.compiled.2 = 0) {b : Option Nat} (hb : LgIs ⟨t.compiled.1, lines, s.data.toList⟩ at_ b) :
    ((atR (parsesR t s at_ lines) at_).2.2 = 0 → (atR (parsesR t s at_ lines) at_).2.1 = b.isSome ∧ ∀ e, b = some e → ∃ sp, (atR (parsesR t s at_ lines) at_).1 = (at_, (e : Int)) :: sp) ∧
    ((atR (parsesR t s at_ lines) at_).2.2 = 2 → (at_ < 0 ∨ (s.size : Int) < at_) ∧ b = none) := by
  obtain ⟨he, hx, hL, hsz, hbk⟩ := Re.compiled_zero hc
  have hsl : s.data.toList.length = s.size := by rw [Array.length_toList]; rfl
  rcases chk_range (s := s) (at_ := at_) he with ⟨h0, h1, h2⟩ | ⟨h0, h1⟩
  · rcases hb with ⟨h3, rfl⟩ | ⟨h3, f, rfl, h4, h5⟩
    · rcases h3 with h3 | h3 | h3
      · exact absurd (Re.compiled_right hc) h3
      · omega
      · dsimp only at h3; omega
    · dsimp only at h4 h5
      rw [hsl] at h4 h5
      refine ⟨fun hr => at_long hc h4 h5 hr, fun hr => ?_⟩
      exfalso
      revert hr
      unfold parsesR
      rw [if_neg (by simpa using h0)]
      cases parses s.data.toList lines t ((f : Nat) : Int).toNat (unsetAll t.groups) with
      | none => intro hr; exact absurd (show (11 : Int) = 2 from hr) (by decide)
      | some l =>
        cases l with
        | nil => intro hr; exact absurd (show (0 : Int) = 2 from hr) (by decide)
        | cons q l => intro hr; exact absurd (show (0 : Int) = 2 from hr) (by decide)
  · have e : atR (parsesR t s at_ lines) at_ = ([], false, 2) := by
      unfold parsesR
      rw [if_pos (by rw [h0]; decide), h0]
      rfl
    rw [e]
    refine ⟨fun hr => absurd (show (2 : Int) = 0 from hr) (by decide), fun _ => ⟨h1, ?_⟩⟩
    rcases hb with ⟨h3, rfl⟩ | ⟨h3, f, rfl, h4, h5⟩
    · rfl
    · dsimp only at h4; omega
theorem exact_left {t : Re} {lines : Bool} {s : ByteArray} {at_ : Int} (hc : t.compiled.2 = 0) {b : Option (Nat × Nat)} (hb : SrIs ⟨t.compiled.1, lines, s.data.toList⟩ at_ b) :
    ((leftmostR t s at_ lines).2.2 = 0 → (leftmostR t s at_ lines).2.1 = b.isSome ∧ ∀ x, b = some x → ∃ sp, (leftmostR t s at_ lines).1 = ((x.1 : Int), (x.2 : Int)) :: sp) ∧
    ((at_ < 0 ∨ (s.size : Int) < at_) → b = none) := by
  obtain ⟨he, hx, hL, hsz, hbk⟩ := Re.compiled_zero hc
  have hsl : s.data.toList.length = s.size := by rw [Array.length_toList]; rfl
  rcases chk_range (s := s) (at_ := at_) he with ⟨h0, h1, h2⟩ | ⟨h0, h1⟩
  · rcases hb with ⟨h3, rfl⟩ | ⟨h3, f, rfl, h4, h5⟩
    · rcases h3 with h3 | h3 | h3
      · exact absurd (Re.compiled_right hc) h3
      · omega
      · dsimp only at h3; omega
    · dsimp only at h4 h5
      rw [hsl] at h4 h5
      refine ⟨fun hr => ?_, fun h => by omega⟩
      unfold leftmostR at hr ⊢
      rw [if_neg (by simpa using h0), show ((f : Nat) : Int).toNat = f by omega] at hr ⊢
      exact left_best hc h5 _ f (by omega) (Nat.le_refl _) (fun f' j k1 k2 => by omega) hr
  · have e : leftmostR t s at_ lines = ([], false, 2) := by
      unfold leftmostR
      rw [if_pos (by rw [h0]; decide), h0]
    rw [e]
    refine ⟨fun hr => absurd (show (2 : Int) = 0 from hr) (by decide), fun _ => ?_⟩
    rcases hb with ⟨h3, rfl⟩ | ⟨h3, f, rfl, h4, h5⟩
    · rfl
    · dsimp only at h4; omega
end Go.Proofs.Ythnpbopnpdlmnaa

/- The sets of a program are as words, plainly. -/
namespace Go.Proofs.Ythnpbopnpdlmnaa
open Go.RowKit

mutual
def Re.wfs : Re → Prop
  | .mk p xs => p.set.wf ∧ Re.wfsAll xs
def Re.wfsAll : List Re → Prop
  | [] => True
  | x :: xs => x.wfs ∧ Re.wfsAll xs
end
mutual
theorem Re.In.wfs {w : World} : ∀ (t : Re) (cs : List Value), t.In w cs → t.wfs
  | .mk p xs, cs, h => by
    rw [Re.In] at h
    obtain ⟨ad, cap, -, hwf, -, -, -, hall⟩ := h
    rw [Re.wfs]
    exact ⟨hwf.set, Re.AllIn.wfs xs ad 0 hall⟩
theorem Re.AllIn.wfs {w : World} : ∀ (xs : List Re) (ad : Option Addr) (k : Nat), Re.AllIn w xs ad k → Re.wfsAll xs
  | [], _, _, _ => by rw [Re.wfsAll]; trivial
  | x :: xs, ad, k, h => by
    rw [Re.AllIn] at h
    obtain ⟨⟨b, o, cs, -, -, h1⟩, h2⟩ := h
    rw [Re.wfsAll]
    exact ⟨Re.In.wfs x cs h1, Re.AllIn.wfs xs ad (k + 9) h2⟩
end
theorem Re.wfsAll_of : ∀ (xs : List Re), (∀ a, a ∈ xs → a.wfs) → Re.wfsAll xs
  | [], _ => by rw [Re.wfsAll]; trivial
  | t :: ts, h => by rw [Re.wfsAll]; exact ⟨h t (by simp), Re.wfsAll_of ts fun a ha => h a (by simp [ha])⟩
theorem Re.node_wfs (op : Int) {xs : List Re} (h : ∀ a, a ∈ xs → a.wfs) : (Re.mk (Pay.of op) xs).wfs := by
  rw [Re.wfs]
  exact ⟨Cs.none_wf, Re.wfsAll_of xs h⟩
theorem Re.rept_wfs {x : Re} (h : x.wfs) (lo hi : Int) : (x.rept lo hi).wfs := by
  unfold Re.rept
  rw [Re.wfs]
  exact ⟨Cs.none_wf, Re.wfsAll_of _ fun a ha => by rw [List.mem_singleton.1 ha]; exact h⟩
theorem Re.counted_wfs {x : Re} (h : x.wfs) (lo hi : Int) : (x.counted lo hi).wfs := by
  unfold Re.counted
  split
  · exact Re.rept_wfs h lo hi
  split
  · exact Re.node_wfs 1 fun a ha => by cases ha
  split
  · exact h
  split
  · exact Re.node_wfs 3 fun a ha => by rw [(List.mem_replicate.1 ha).2]; exact h
  split
  · refine Re.node_wfs 3 fun a ha => ?_
    rcases List.mem_append.1 ha with ha | ha
    · rw [(List.mem_replicate.1 ha).2]; exact h
    · rw [List.mem_singleton.1 ha]; exact Re.rept_wfs h _ _
  · refine Re.node_wfs 3 fun a ha => ?_
    rcases List.mem_append.1 ha with ha | ha
    · rw [(List.mem_replicate.1 ha).2]; exact h
    · rw [(List.mem_replicate.1 ha).2]; exact Re.rept_wfs h _ _
mutual
theorem Re.expand_wfs : ∀ (t : Re), t.wfs → t.expand.wfs
  | .mk p xs, h => by
    rw [Re.wfs] at h
    have IH := Re.expands_wfs xs h.2
    rw [Re.expand]
    split
    · exact Re.node_wfs 1 fun a ha => by cases ha
    split
    · refine Re.counted_wfs ?_ _ _
      cases hx : Re.expands xs with
      | nil => exact Re.node_wfs 0 fun a ha => by cases ha
      | cons y ys => rw [hx, Re.wfsAll] at IH; exact IH.1
    · rw [Re.wfs]; exact ⟨h.1, IH⟩
theorem Re.expands_wfs : ∀ (xs : List Re), Re.wfsAll xs → Re.wfsAll (Re.expands xs)
  | [], _ => by rw [Re.expands, Re.wfsAll]; trivial
  | x :: xs, h => by
    rw [Re.wfsAll] at h
    rw [Re.expands, Re.wfsAll]
    exact ⟨Re.expand_wfs x h.1, Re.expands_wfs xs h.2⟩
end
mutual
theorem Re.gen_wf : ∀ (t : Re) (n : Nat) (i : Inst), t.wfs → i ∈ t.gen n → i.set.wf
  | .mk p xs, n, i, h, hi => by
    rw [Re.wfs] at h
    have G := fun m => Re.gens_wf xs m i h.2
    have A := fun m k => Re.galt_wf xs m k i h.2
    rw [Re.gen] at hi
    split at hi
    · have := List.mem_singleton.1 hi; subst this; exact h.1
    split at hi
    · have := List.mem_singleton.1 hi; subst this; exact Cs.none_wf
    split at hi
    · have := List.mem_singleton.1 hi; subst this; exact Cs.none_wf
    split at hi
    · exact A _ _ hi
    split at hi
    · split at hi
      · rcases List.mem_append.1 hi with hi | hi
        · exact G _ hi
        · have := List.mem_singleton.1 hi; subst this; exact Cs.none_wf
      · rcases List.mem_cons.1 hi with rfl | hi
        · exact Cs.none_wf
        · rcases List.mem_append.1 hi with hi | hi
          · exact G _ hi
          · split at hi
            · have := List.mem_singleton.1 hi; subst this; exact Cs.none_wf
            · cases hi
    · exact G _ hi
theorem Re.gens_wf : ∀ (xs : List Re) (n : Nat) (i : Inst), Re.wfsAll xs → i ∈ Re.gens xs n → i.set.wf
  | [], n, i, _, hi => by rw [Re.gens] at hi; cases hi
  | x :: xs, n, i, h, hi => by
    rw [Re.wfsAll] at h
    rw [Re.gens] at hi
    rcases List.mem_append.1 hi with hi | hi
    · exact Re.gen_wf x n i h.1 hi
    · exact Re.gens_wf xs _ i h.2 hi
theorem Re.galt_wf : ∀ (xs : List Re) (n k : Nat) (i : Inst), Re.wfsAll xs → i ∈ Re.galt xs n k → i.set.wf
  | [], n, k, i, _, hi => by rw [Re.galt] at hi; cases hi
  | x :: xs, n, k, i, h, hi => by
    rw [Re.wfsAll] at h
    have G := fun m => Re.gen_wf x m i h.1
    have A := fun m => Re.galt_wf xs m k i h.2
    rw [Re.galt] at hi
    split at hi
    · exact G _ hi
    · rcases List.mem_cons.1 hi with rfl | hi
      · exact Cs.none_wf
      · rcases List.mem_append.1 hi with hi | hi
        · rcases List.mem_append.1 hi with hi | hi
          · exact G _ hi
          · have := List.mem_singleton.1 hi; subst this; exact Cs.none_wf
        · exact A _ hi
end
theorem Re.compiled_wf {t : Re} (hc : t.compiled.2 = 0) (h : t.wfs) : ∀ k (hk : k < t.compiled.1.length), t.compiled.1[k].set.wf := by
  obtain ⟨he, hx, hL, -, -⟩ := Re.compiled_zero hc
  intro k hk
  have hm : t.compiled.1[k] ∈ t.compiled.1 := List.getElem_mem _
  generalize t.compiled.1[k] = i at hm ⊢
  rw [hL] at hm
  have hxe : t.expandR.1 = t.expand := by
    unfold Re.expandR at hx ⊢
    rw [if_neg (by simpa using he)] at hx ⊢
    split at hx
    · exact absurd (show (3 : Int) = 0 from hx) (by decide)
    · rename_i hw; rw [if_neg hw]
  rw [hxe] at hm
  rcases List.mem_append.1 hm with hm | hm
  · exact Re.gen_wf t.expand 0 i (Re.expand_wfs t h) hm
  · have := List.mem_singleton.1 hm; subst this; exact Cs.none_wf
end Go.Proofs.Ythnpbopnpdlmnaa

/- What Threads returns, plainly: the instructions that are reached, in ascending order. -/
namespace Go.Proofs.Ythnpbopnpdlmnaa
open Go.RowKit

def IsTh (m : Sim) (at_ d : Int) (ts : List Nat) : Prop :=
  ts.Pairwise (· < ·) ∧ ∀ k, k ∈ ts ↔ rightAll m.L ∧ 0 ≤ at_ ∧ at_ ≤ d ∧ d ≤ m.s.length ∧ m.leaf k ∧ m.R at_.toNat (d.toNat - at_.toNat) k
theorem asc_unique : ∀ (A B : List Nat), A.Pairwise (· < ·) → B.Pairwise (· < ·) → (∀ k, k ∈ A ↔ k ∈ B) → A = B
  | [], [], _, _, _ => rfl
  | [], b :: B, _, _, h => absurd ((h b).2 (by simp)) (by simp)
  | a :: A, [], _, _, h => absurd ((h a).1 (by simp)) (by simp)
  | a :: A, b :: B, h1, h2, h => by
    rw [List.pairwise_cons] at h1 h2
    have e : a = b := by
      have ha := (h a).1 (by simp)
      have hb := (h b).2 (by simp)
      rcases List.mem_cons.1 ha with ha | ha
      · exact ha
      · rcases List.mem_cons.1 hb with hb | hb
        · exact hb.symm
        · have := h2.1 a ha
          have := h1.1 b hb
          omega
    subst e
    rw [asc_unique A B h1.2 h2.2 fun k => ?_]
    constructor
    · intro hk
      have := h1.1 k hk
      rcases List.mem_cons.1 ((h k).1 (by simp [hk])) with e | e
      · omega
      · exact e
    · intro hk
      have := h2.1 k hk
      rcases List.mem_cons.1 ((h k).2 (by simp [hk])) with e | e
      · omega
      · exact e
theorem IsTh.nil {m : Sim} {at_ d : Int} (h : ¬ rightAll m.L ∨ at_ < 0 ∨ (m.s.length : Int) < d ∨ d < at_) : IsTh m at_ d [] := by
  refine ⟨List.Pairwise.nil, fun k => ⟨fun hk => (by cases hk), ?_⟩⟩
  rintro ⟨h1, h2, h3, h4, -⟩
  rcases h with h | h | h | h
  · exact absurd h1 h
  all_goals omega
theorem sorted_nat (K : List Nat) (hn : K.Nodup) : ∃ ts : List Nat, ((K.map fun (k : Nat) => (k : Int)).mergeSort fun x y => decide (x ≤ y)) = ts.map (fun (k : Nat) => (k : Int)) ∧ ts.Pairwise (· < ·) ∧ (∀ k, k ∈ ts ↔ k ∈ K) ∧ ts.length = K.length := by
  have hp : ((K.map fun (k : Nat) => (k : Int)).mergeSort fun x y => decide (x ≤ y)).Perm (K.map fun (k : Nat) => (k : Int)) := List.mergeSort_perm _ _
  have hs := List.pairwise_mergeSort (le := fun (x y : Int) => decide (x ≤ y)) (fun a b c h1 h2 => by simp only [decide_eq_true_eq] at h1 h2 ⊢; omega) (fun a b => by simp only [Bool.or_eq_true, decide_eq_true_eq]; omega) (K.map fun (k : Nat) => (k : Int))
  have hnd : (K.map fun (k : Nat) => (k : Int)).Nodup := by
    rw [List.nodup_iff_pairwise_ne, List.pairwise_map]
    exact List.Pairwise.imp (fun h e => h (by omega)) (List.nodup_iff_pairwise_ne.1 hn)
  have hnm := hp.nodup_iff.2 hnd
  generalize ((K.map fun (k : Nat) => (k : Int)).mergeSort fun x y => decide (x ≤ y)) = ms at *
  have h0 : ∀ x, x ∈ ms → 0 ≤ x := fun x hx => by
    obtain ⟨k, -, rfl⟩ := List.mem_map.1 (hp.mem_iff.1 hx)
    omega
  have e : ms = (ms.map Int.toNat).map fun (k : Nat) => (k : Int) := by
    rw [List.map_map]
    conv => lhs; rw [← List.map_id ms]
    refine List.map_congr_left fun x hx => ?_
    have := h0 x hx
    show x = ((x.toNat : Nat) : Int)
    omega
  refine ⟨ms.map Int.toNat, e, ?_, fun k => ?_, by rw [List.length_map, hp.length_eq, List.length_map]⟩
  · rw [List.pairwise_map]
    refine List.Pairwise.imp_of_mem (fun {x y} hx hy h => ?_) (hs.and (List.nodup_iff_pairwise_ne.1 hnm))
    have h1 := h0 x hx
    have h2 := h0 y hy
    have h3 : x ≤ y := by simpa using h.1
    have h4 := h.2
    omega
  · rw [List.mem_map]
    constructor
    · rintro ⟨x, hx, rfl⟩
      obtain ⟨k, hk, rfl⟩ := List.mem_map.1 (hp.mem_iff.1 hx)
      exact hk
    · intro hk
      exact ⟨(k : Int), hp.mem_iff.2 (List.mem_map.2 ⟨k, hk, rfl⟩), rfl⟩
end Go.Proofs.Ythnpbopnpdlmnaa

/- Laws of a simulation, plainly: a single set; a string before; the example. -/
namespace Go.Proofs.Ythnpbopnpdlmnaa
open Go.RowKit

section
variable {m : Sim} {a : Cs}
end
section
variable {m m' : Sim} {d : Nat}
end
end Go.Proofs.Ythnpbopnpdlmnaa

/- The reference's Check of a tree: the error of the tree. -/
namespace Go.Proofs.Ythnpbopnpdlmnaa
open Go.RowKit

theorem Re.err_some (t : Re) : t.err = if t.typed = false then 7 else if (t.ranged 0).isSome = false then 2 else if (t.named []).isSome = false then 4 else if 600 < t.size ∨ 9 < t.groups ∨ 32 < t.levels then 3 else 0 := by
  unfold Re.err
  cases t.ranged 0 <;> cases t.named [] <;> rfl

set_option maxRecDepth 100000 in
set_option maxHeartbeats 4000000 in
theorem CheckRef_any (t : Re) (w : World) (cs : List Value) (hIn : t.In w cs) (hsz : t.size ≤ 1048576) :
    Calls Try.prog 7 #[.agg cs.toArray] w fun e w' => e = .returned (.int .i64 t.err) ∧ Below w.heap.size w w' := by
  cases t with
  | mk p xs =>
    have hIn' := hIn
    rw [Re.In] at hIn
    obtain ⟨ad, cap, rfl, _⟩ := hIn
    simp only [Pay.cells] at hIn' ⊢
    have HI := hid hIn'
    have hgl := Re.count_le (· == 6) (.mk p xs)
    have hll := Re.levels_le (.mk p xs)
    have HGL := hid hgl
    have HLL := hid hll
    have HSZ := hid hsz
    have HER := hid (Re.err_some (.mk p xs))
    clear hIn' hgl hll
    have HB0 := hid ((Below.refl _ w).alloc (Nat.le_refl _) (.cells #[.int .i64 p.op, .int .u64 p.set.a, .int .u64 p.set.b, .int .u64 p.set.c, .int .u64 p.set.d, .int .i64 p.lo, .int .i64 p.hi, .int .i64 p.gr, .slice ad xs.length cap] 28))
    have HC1 := hid (typedRef_any (.mk p xs) _ _ (HI.out.below HB0.out) HSZ.out)
    go_enter Try.func7, Try.ntmps7
    go_wp2_with fail
    refine HC1.out.mono ?_
    rintro e w1 ⟨rfl, hb1⟩
    obtain ⟨hbx, hbl, hlt0⟩ := box_facts (w := w) (p := p) (sl := .slice ad xs.length cap) (hb1.mono (by simp))
    have q := hbx.c9
    have HB := hid hbl
    have HHX := hid hbx
    clear hb1 hbl HC1
    cases ht : (Re.mk p xs).typed
    · rw [ht] at HER
      have HT := hid ht
      clear ht hbx
      go_wp2_with fail
      go_ret
      exact ⟨ret_int (by rw [HER.out]; simp), HB.out⟩
    · rw [ht] at HER
      have HT := hid ht
      clear ht
      have HC2 := hid (rangedRef_any (.mk p xs) w1 _ 0 (HI.out.below HB.out) (by have := HSZ.out; simp only [Nat.zero_add]; omega))
      clear hbx
      go_wp2_with fail
      refine HC2.out.mono ?_
      rintro e w2 ⟨hb2, m, rfl, hm⟩
      have hbx := HHX.out.below hb2 (by omega)
      have hbl := HB.out.trans (hb2.mono (by omega))
      have hlt2 : w.heap.size < w2.heap.size := by have := hb2.size; omega
      have q2 := hbx.c9
      have HB2 := hid hbl
      have HHX2 := hid hbx
      clear hb2 hbl HC2 hm hbx q
      cases hr : ((Re.mk p xs).ranged 0).isSome
      · rw [hr] at HER
        clear hr
        go_wp2_with fail
        go_ret
        exact ⟨ret_int (by rw [HER.out]; simp), HB2.out⟩
      · rw [hr] at HER
        clear hr
        have HC3 := hid (namedRef_any w.heap.size w (Nat.le_refl _) (.mk p xs) w2 _ (.slice none 0 0) [] HI.out HB2.out (by omega) (World.ownsRow_nil _ _ _ _) (by have := HSZ.out; simp; omega))
        go_wp2_with fail
        refine HC3.out.mono ?_
        rintro e w3 ⟨hb3, a3, n3, c3, rfl, hm3⟩
        have hb3' : Below w2.heap.size w2 w3 := hb3.below (Nat.le_refl _) (fun k hk => by simp [own, Value.ownBlock] at hk)
        have hbx := HHX2.out.below hb3' (by omega)
        have hbl := HB2.out.trans (hb3'.mono (by omega))
        have hlt3 : w.heap.size < w3.heap.size := by have := hb3'.size; omega
        have q3 := hbx.c9
        have HB3 := hid hbl
        have HHX3 := hid hbx
        clear hb3 hb3' hbl HC3 hm3 hbx q2
        cases hr : ((Re.mk p xs).named []).isSome
        · rw [hr] at HER
          clear hr
          go_wp2_with fail
          go_ret
          exact ⟨ret_int (by rw [HER.out]; simp), HB3.out⟩
        · rw [hr] at HER
          clear hr
          have HC4 := hid (SizeRef_any (.mk p xs) w3 _ (HI.out.below HB3.out) HSZ.out)
          go_wp2_with fail
          refine HC4.out.mono ?_
          rintro e w4 ⟨rfl, hb4⟩
          have hbx := HHX3.out.below hb4 (by omega)
          have hbl := HB3.out.trans (hb4.mono (by omega))
          have hlt4 : w.heap.size < w4.heap.size := by have := hb4.size; omega
          have q4 := hbx.c9
          have HB4 := hid hbl
          have HHX4 := hid hbx
          clear hb4 hbl HC4 hbx q3
          have HC5 := hid (GroupsRef_any (.mk p xs) w4 _ (HI.out.below HB4.out) HSZ.out)
          by_cases h600 : 600 < (Re.mk p xs).size
          · have d600 : decide ((600 : Int) < ((Re.mk p xs).size : Int)) = true := by rw [decide_eq_true_eq]; omega
            have H600 := hid h600
            clear h600
            go_wp2_with fail
            go_ret
            exact ⟨ret_int (by rw [HER.out]; simp [H600.out]), HB4.out⟩
          · have d600 : decide ((600 : Int) < ((Re.mk p xs).size : Int)) = false := by rw [decide_eq_false_iff_not]; omega
            have H600 := hid h600
            clear h600
            go_wp2_with fail
            refine HC5.out.mono ?_
            rintro e w5 ⟨rfl, hb5⟩
            have hbx := HHX4.out.below hb5 (by omega)
            have hbl := HB4.out.trans (hb5.mono (by omega))
            have hlt5 : w.heap.size < w5.heap.size := by have := hb5.size; omega
            have q5 := hbx.c9
            have HB5 := hid hbl
            have HHX5 := hid hbx
            clear hb5 hbl HC5 hbx q4 d600
            have HC6 := hid (levelsRef_any (.mk p xs) w5 _ (HI.out.below HB5.out) HSZ.out)
            by_cases h9 : 9 < (Re.mk p xs).groups
            · have d9 : decide ((9 : Int) < ((Re.mk p xs).groups : Int)) = true := by rw [decide_eq_true_eq]; omega
              have H9 := hid h9
              clear h9
              go_wp2_with fail
              go_ret
              exact ⟨ret_int (by rw [HER.out]; simp [H9.out]), HB5.out⟩
            · have d9 : decide ((9 : Int) < ((Re.mk p xs).groups : Int)) = false := by rw [decide_eq_false_iff_not]; omega
              have H9 := hid h9
              clear h9
              go_wp2_with fail
              refine HC6.out.mono ?_
              rintro e w6 ⟨rfl, hb6⟩
              have hbl := HB5.out.trans (hb6.mono (by omega))
              have HB6 := hid hbl
              clear hb6 hbl HC6 d9
              by_cases h32 : 32 < (Re.mk p xs).levels
              · have d32 : decide ((32 : Int) < ((Re.mk p xs).levels : Int)) = true := by rw [decide_eq_true_eq]; omega
                have H32 := hid h32
                clear h32
                go_wp2_with fail
                go_ret
                exact ⟨ret_int (by rw [HER.out]; simp [H32.out]), HB6.out⟩
              · have d32 : decide ((32 : Int) < ((Re.mk p xs).levels : Int)) = false := by rw [decide_eq_false_iff_not]; omega
                have H32 := hid h32
                clear h32
                go_wp2_with fail
                go_ret
                exact ⟨ret_int (by rw [HER.out]; simp [H32.out, H9.out, H600.out]), HB6.out⟩
end Go.Proofs.Ythnpbopnpdlmnaa
