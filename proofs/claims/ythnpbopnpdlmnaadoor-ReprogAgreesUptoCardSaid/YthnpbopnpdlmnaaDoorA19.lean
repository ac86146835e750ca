/- A tree that Check lets pass. -/
import Derived.Test.YthnpbopnpdlmnaaDoorA17
import Derived.Test.YthnpbopnpdlmnaaDoorA11
import Derived.Test.YthnpbopnpdlmnaaDoorA06
import Derived.Test.YthnpbopnpdlmnaaDoorA18
namespace Go.Proofs.YthnpbopnpdlmnaaDoor
open Go.RowKit

theorem shaped_ok {p : Pay} {n : Nat} (h : p.shaped n = true) : (1 ≤ p.op ∧ p.op ≤ 9) ∧ (p.op = 3 ∨ p.op = 4 → 2 ≤ n) ∧ (p.op = 5 ∨ p.op = 6 → n = 1) := by
  unfold Pay.shaped at h
  split at h
  · rename_i h1; refine ⟨by omega, fun h => by omega, fun h => by omega⟩
  split at h
  · rename_i h1; refine ⟨by omega, fun h => by omega, fun h => by omega⟩
  split at h
  · rename_i h1
    simp only [Bool.and_eq_true, decide_eq_true_eq] at h
    refine ⟨by omega, fun _ => h.1.1.1, fun h => by omega⟩
  split at h
  · rename_i h1
    simp only [Bool.and_eq_true, decide_eq_true_eq] at h
    refine ⟨by omega, fun h => by omega, fun _ => h.1.1⟩
  split at h
  · rename_i h1
    simp only [Bool.and_eq_true, decide_eq_true_eq] at h
    refine ⟨by omega, fun h => by omega, fun _ => h.1.1⟩
  split at h
  · rename_i h1; refine ⟨by omega, fun h => by omega, fun h => by omega⟩
  · cases h
mutual
theorem Re.ok_aux (N : Nat) : ∀ (t : Re) (b n : Nat) (l l' : List Int), t.typed = true → t.ranged b = some n → t.named l = some l' → n ≤ N → (∀ g, g ∈ l → 1 ≤ g ∧ g ≤ N) → t.size ≤ 1000000 → t.ok N ∧ (∀ g, g ∈ l' → 1 ≤ g ∧ g ≤ N)
  | .mk p xs, b, n, l, l', h1, h2, h3, hn, hl, hs => by
    rw [Re.typed, Bool.and_eq_true] at h1
    rw [Re.ranged] at h2
    rw [Re.named] at h3
    rw [Re.size_mk] at hs
    obtain ⟨s1, s2, s3⟩ := shaped_ok h1.1
    split at h2
    · cases h2
    split at h3
    · cases h3
    rename_i h5 h9
    have hx : ∀ (b' : Nat), Re.rangeds xs b' = some n → (p.op = 6 → p.gr = b' ∧ 1 ≤ b') → (Re.mk p xs).ok N ∧ (∀ g, g ∈ l' → 1 ≤ g ∧ g ≤ N) := by
      intro b' hr hb'
      have hg := Re.rangeds_groups xs b' n hr
      cases hm : Re.nameds xs l with
      | none => rw [hm] at h3; cases h3
      | some l2 =>
        rw [hm] at h3
        obtain ⟨k1, k2⟩ := Re.oks_aux N xs b' n l l2 h1.2 hr hm hn hl (by omega)
        refine ⟨?_, ?_⟩
        · rw [Re.ok]
          refine ⟨⟨s1, by omega⟩, fun h => ?_, fun h => ?_, fun h => ?_, k1⟩
          · have := s2 h; rintro rfl; simp at this
          · have := s3 h
            match xs, this with
            | [x], _ => exact ⟨x, rfl⟩
          · rcases h with h | h
            · have := hb' h; omega
            · have : p.gr ∈ l := by
                by_cases hm : p.gr ∈ l
                · exact hm
                · exact absurd ⟨h, hm⟩ h9
              exact hl _ this
        · intro g hgm
          by_cases h6 : p.op = 6
          · simp only [h6, if_true] at h3
            have h3' := Option.some.inj h3
            subst h3'
            rcases List.mem_append.1 hgm with hgm | hgm
            · exact k2 g hgm
            · have := List.mem_singleton.1 hgm; have := hb' h6; omega
          · simp only [h6, if_false] at h3
            have h3' := Option.some.inj h3
            subst h3'
            exact k2 g hgm
    split at h2
    · rename_i h6
      split at h2
      · rename_i hgr
        exact hx (b + 1) h2 (fun _ => ⟨by omega, by omega⟩)
      · cases h2
    · rename_i h6
      exact hx b h2 (fun h => absurd h h6)
theorem Re.oks_aux (N : Nat) : ∀ (xs : List Re) (b n : Nat) (l l' : List Int), Re.typeds xs = true → Re.rangeds xs b = some n → Re.nameds xs l = some l' → n ≤ N → (∀ g, g ∈ l → 1 ≤ g ∧ g ≤ N) → Re.sizes xs ≤ 1000000 → Re.oks N xs ∧ (∀ g, g ∈ l' → 1 ≤ g ∧ g ≤ N)
  | [], b, n, l, l', h1, h2, h3, hn, hl, hs => by
    rw [Re.nameds] at h3
    have := Option.some.inj h3
    subst this
    exact ⟨by rw [Re.oks]; trivial, hl⟩
  | t :: ts, b, n, l, l', h1, h2, h3, hn, hl, hs => by
    rw [Re.typeds, Bool.and_eq_true] at h1
    rw [Re.rangeds] at h2
    rw [Re.nameds] at h3
    have hs2 : t.size + Re.sizes ts ≤ 1000000 := hs
    cases hr : t.ranged b with
    | none => rw [hr] at h2; cases h2
    | some b2 =>
      rw [hr] at h2
      cases hm : t.named l with
      | none => rw [hm] at h3; cases h3
      | some l2 =>
        rw [hm] at h3
        have hb2 := Re.rangeds_groups ts b2 n h2
        obtain ⟨k1, k2⟩ := Re.ok_aux N t b b2 l l2 h1.1 hr hm (by omega) hl (by omega)
        obtain ⟨k3, k4⟩ := Re.oks_aux N ts b2 n l2 l' h1.2 h2 h3 hn k2 (by omega)
        exact ⟨by rw [Re.oks]; exact ⟨k1, k3⟩, k4⟩
end
theorem Re.ok_err {t : Re} (h : t.err = 0) : t.ok t.groups ∧ t.groups ≤ 9 ∧ t.size ≤ 600 := by
  unfold Re.err at h
  cases h1 : t.typed with
  | false => simp [h1] at h
  | true =>
    cases h2 : t.ranged 0 with
    | none => simp [h1, h2] at h
    | some n =>
      cases h3 : t.named [] with
      | none => simp [h1, h2, h3] at h
      | some l =>
        simp only [h1, h2, h3] at h
        have hlim : ¬ (600 < t.size ∨ 9 < t.groups ∨ 32 < t.levels) := by
          intro hx; simp [hx] at h
        have hg := Re.ranged_groups t 0 n h2
        exact ⟨(Re.ok_aux t.groups t 0 n [] l h1 h2 h3 (by omega) (fun g hg => by cases hg) (by omega)).1, by omega, by omega⟩

def chk (t : Re) (s : ByteArray) (at_ : Int) : Int := if t.err ≠ 0 then t.err else if at_ < 0 ∨ (s.size : Int) < at_ then 2 else 0
theorem chk_zero {t : Re} {s : ByteArray} {at_ : Int} (h : chk t s at_ = 0) : t.err = 0 ∧ 0 ≤ at_ ∧ at_ ≤ s.size := by
  unfold chk at h
  by_cases h1 : t.err ≠ 0
  · rw [if_pos h1] at h; exact absurd h h1
  · rw [if_neg h1] at h
    by_cases h2 : at_ < 0 ∨ (s.size : Int) < at_
    · rw [if_pos h2] at h; cases h
    · exact ⟨by omega, by omega, by omega⟩
end Go.Proofs.YthnpbopnpdlmnaaDoor

/- What Parses, At and Leftmost hand out, plainly. -/
namespace Go.Proofs.YthnpbopnpdlmnaaDoor
open Go.RowKit

def parsesR (t : Re) (s : ByteArray) (at_ : Int) (lines : Bool) : List Parse × Int :=
  if chk t s at_ ≠ 0 then ([], chk t s at_) else match parses s.data.toList lines t at_.toNat (unsetAll t.groups) with
    | none => ([], 11)
    | some l => (l, 0)
def ParsesPost (w : World) (r : List Parse × Int) (e : Ending) (w' : World) : Prop :=
  ∃ a c, e = .returned (.tuple #[.slice a r.1.length c, .int .i64 r.2]) ∧ Below w.heap.size w w' ∧ PsQ (w.heap.size ≤ ·) w' (.slice a r.1.length c) r.1
theorem unsetAll_ok (N L : Nat) : SpOk N L (unsetAll N) := ⟨by simp [unsetAll], fun x hx => .inl (List.mem_replicate.1 hx).2⟩
end Go.Proofs.YthnpbopnpdlmnaaDoor

/- The order of parses, plainly: they are sorted by their ends, no two are equal, and the spans of groups lie within them. -/
namespace Go.Proofs.YthnpbopnpdlmnaaDoor
open Go.RowKit

section
variable (s : List UInt8) (lines : Bool) (N i0 : Nat)
end
end Go.Proofs.YthnpbopnpdlmnaaDoor

/- What a repetition visits, plainly: all that can be reached. -/
namespace Go.Proofs.YthnpbopnpdlmnaaDoor
open Go.RowKit

def clampC (p : Pay) (c : Nat) : Nat := if p.hi < 0 ∧ p.lo < (c : Int) then p.lo.toNat else c
section
variable (p : Pay) (gs : List Nat) (child : Nat → Spans → Option (List Parse))
def Nxt (v u : Sit) : Prop := (p.hi < 0 ∨ (v.1 : Int) < p.hi) ∧ ∃ l, child v.2.1 (unset v.2.2 gs) = some l ∧ ∃ q, q ∈ l ∧ ¬ (q.1 = v.2.1 ∧ p.lo ≤ (v.1 : Int)) ∧ u = (clampC p (v.1 + 1), q)
inductive Rch : Sit → Sit → Prop
  | refl (v : Sit) : Rch v v
  | step {v u z : Sit} : Nxt p gs child v u → Rch u z → Rch v z
theorem Rch.trans {v u z : Sit} (h : Rch p gs child v u) (k : Rch p gs child u z) : Rch p gs child v z := by
  induction h with
  | refl _ => exact k
  | step h _ ih => exact .step h (ih k)
structure VSpec (x : Sit) (st st' : List Sit × List Parse) : Prop where
  mono : ∀ v, v ∈ st.1 → v ∈ st'.1
  self : (clampC p x.1, x.2) ∈ st'.1
  closed : ∀ v, v ∈ st'.1 → v ∈ st.1 ∨ ∀ u, Nxt p gs child v u → u ∈ st'.1
  reach : ∀ v, v ∈ st'.1 → v ∈ st.1 ∨ Rch p gs child (clampC p x.1, x.2) v
  out : ∀ q, q ∈ st'.2 ↔ q ∈ st.2 ∨ ∃ c : Nat, (c, q) ∈ st'.1 ∧ (c, q) ∉ st.1 ∧ p.lo ≤ (c : Int)
  kid : ∀ v, v ∈ st'.1 → v ∈ st.1 ∨ ((p.hi < 0 ∨ (v.1 : Int) < p.hi) → ∃ l, child v.2.1 (unset v.2.2 gs) = some l)
theorem VSpec.done {x : Sit} {st : List Sit × List Parse} (h : (clampC p x.1, x.2) ∈ st.1) : VSpec p gs child x st st :=
  ⟨fun _ h => h, h, fun _ h => .inl h, fun _ h => .inl h, fun _ => ⟨.inl, fun h => h.elim id fun ⟨_, h1, h2, _⟩ => absurd h1 h2⟩, fun _ h => .inl h⟩
structure FSpec (v0 : Sit) (l : List Parse) (st st' : List Sit × List Parse) : Prop where
  mono : ∀ v, v ∈ st.1 → v ∈ st'.1
  all : ∀ q, q ∈ l → (q.1 = v0.2.1 ∧ p.lo ≤ (v0.1 : Int)) ∨ (clampC p (v0.1 + 1), q) ∈ st'.1
  closed : ∀ v, v ∈ st'.1 → v ∈ st.1 ∨ ∀ u, Nxt p gs child v u → u ∈ st'.1
  reach : ∀ v, v ∈ st'.1 → v ∈ st.1 ∨ ∃ q, q ∈ l ∧ ¬ (q.1 = v0.2.1 ∧ p.lo ≤ (v0.1 : Int)) ∧ Rch p gs child (clampC p (v0.1 + 1), q) v
  out : ∀ q, q ∈ st'.2 ↔ q ∈ st.2 ∨ ∃ c : Nat, (c, q) ∈ st'.1 ∧ (c, q) ∉ st.1 ∧ p.lo ≤ (c : Int)
  kid : ∀ v, v ∈ st'.1 → v ∈ st.1 ∨ ((p.hi < 0 ∨ (v.1 : Int) < p.hi) → ∃ l, child v.2.1 (unset v.2.2 gs) = some l)
theorem fold_spec {f : Nat} (hv : ∀ x st st', visit p gs child f x st = some st' → VSpec p gs child x st st') (c : Nat) (j : Nat) (sp : Spans) : ∀ (l : List Parse) (st st' : List Sit × List Parse),
    l.foldlM (fun st q => if q.1 = j ∧ p.lo ≤ (c : Int) then some st else visit p gs child f (c + 1, q.1, q.2) st) st = some st' → FSpec p gs child (c, j, sp) l st st'
  | [], st, st', h => by
    have := Option.some.inj h; subst this
    exact ⟨fun _ h => h, (fun _ h => by cases h), fun _ h => .inl h, fun _ h => .inl h, fun q => ⟨.inl, fun h => h.elim id fun ⟨c, h1, h2, _⟩ => absurd h1 h2⟩, fun _ h => .inl h⟩
  | a :: l, st, st', h => by
    rw [List.foldlM_cons] at h
    obtain ⟨s1, h1, h2⟩ := Option.bind_eq_some_iff.1 h
    have F := fold_spec hv c j sp l s1 st' h2
    by_cases hs : a.1 = j ∧ p.lo ≤ (c : Int)
    · rw [if_pos hs] at h1
      have := Option.some.inj h1; subst this
      refine ⟨F.mono, fun q hq => ?_, F.closed, fun v hv => (F.reach v hv).imp id fun ⟨q, h3, h4⟩ => ⟨q, List.mem_cons_of_mem _ h3, h4⟩, F.out, F.kid⟩
      rcases List.mem_cons.1 hq with rfl | hq
      · exact .inl hs
      · exact F.all q hq
    · rw [if_neg hs] at h1
      have V := hv _ _ _ h1
      refine ⟨fun v h => F.mono v (V.mono v h), fun q hq => ?_, fun v hm => ?_, fun v hm => ?_, fun q => ?_, fun v hm => (F.kid v hm).elim (V.kid v) .inr⟩
      · rcases List.mem_cons.1 hq with rfl | hq
        · exact .inr (F.mono _ V.self)
        · exact F.all q hq
      · rcases F.closed v hm with h3 | h3
        · exact (V.closed v h3).imp id fun h4 u hu => F.mono u (h4 u hu)
        · exact .inr h3
      · rcases F.reach v hm with h3 | ⟨q, h3, h4⟩
        · exact (V.reach v h3).imp id fun h4 => ⟨a, by simp, hs, h4⟩
        · exact .inr ⟨q, List.mem_cons_of_mem _ h3, h4⟩
      · rw [F.out, V.out]
        constructor
        · rintro ((h3 | ⟨k, h3, h4, h5⟩) | ⟨k, h3, h4, h5⟩)
          · exact .inl h3
          · exact .inr ⟨k, F.mono _ h3, h4, h5⟩
          · exact .inr ⟨k, h3, fun hm => h4 (V.mono _ hm), h5⟩
        · rintro (h3 | ⟨k, h3, h4, h5⟩)
          · exact .inl (.inl h3)
          · by_cases hk : (k, q) ∈ s1.1
            · exact .inl (.inr ⟨k, hk, h4, h5⟩)
            · exact .inr ⟨k, h3, hk, h5⟩
theorem visit_spec : ∀ (f : Nat) (x : Sit) (st st' : List Sit × List Parse), visit p gs child f x st = some st' → VSpec p gs child x st st'
  | 0, x, st, st', h => by cases h
  | f + 1, (c0, i, sp), st, st', h => by
    rw [visit] at h
    dsimp only at h
    have hc : (if p.hi < 0 ∧ p.lo < (c0 : Int) then p.lo.toNat else c0) = clampC p c0 := rfl
    rw [hc] at h
    obtain ⟨c, hcc⟩ : ∃ c, c = clampC p c0 := ⟨_, rfl⟩
    rw [← hcc] at h
    split at h
    · rename_i hm
      have := Option.some.inj h; subst this
      exact VSpec.done p gs child (by rw [← hcc]; exact hm)
    rename_i hm
    split at h
    · cases h
    rw [Option.bind_eq_some_iff] at h
    obtain ⟨st2, h1, h2⟩ := h
    have := Option.some.inj h2
    subst this
    have F : ∃ l, FSpec p gs child (c, i, sp) l (st.1 ++ [(c, i, sp)], st.2) st2 ∧ ((p.hi < 0 ∨ (c : Int) < p.hi) → ∃ l, child i (unset sp gs) = some l) ∧ (∀ u, Nxt p gs child (c, i, sp) u → ∃ q, q ∈ l ∧ ¬ (q.1 = i ∧ p.lo ≤ (c : Int)) ∧ u = (clampC p (c + 1), q)) ∧ (∀ q, q ∈ l → ¬ (q.1 = i ∧ p.lo ≤ (c : Int)) → Nxt p gs child (c, i, sp) (clampC p (c + 1), q)) := by
      split at h1
      · rename_i hg
        obtain ⟨l, h4, h5⟩ := Option.bind_eq_some_iff.1 h1
        refine ⟨l, fold_spec p gs child (fun x st st' => visit_spec f x st st') c i sp l _ _ h5, fun _ => ⟨l, h4⟩, fun u hu => ?_, fun q hq hn => ⟨hg, l, h4, q, hq, hn, rfl⟩⟩
        obtain ⟨-, l', hl', q, hq, hn, hu⟩ := hu
        have := Option.some.inj (hl'.symm.trans h4); subst this
        exact ⟨q, hq, hn, hu⟩
      · rename_i hg
        have := Option.some.inj h1; subst this
        exact ⟨[], ⟨fun _ h => h, (fun _ h => by cases h), fun _ h => .inl h, fun _ h => .inl h, fun q => ⟨.inl, fun h => h.elim id fun ⟨c, h1, h2, _⟩ => absurd h1 h2⟩, fun _ h => .inl h⟩, fun h => absurd h hg, fun u hu => absurd hu.1 hg, fun q hq => by cases hq⟩
    obtain ⟨l, F, hkid, hl1, hl2⟩ := F
    have hself : (c, i, sp) ∈ st2.1 := F.mono _ (by simp)
    have hclo : ∀ u, Nxt p gs child (c, i, sp) u → u ∈ st2.1 := fun u hu => by
      obtain ⟨q, hq, hn, rfl⟩ := hl1 u hu
      exact (F.all q hq).resolve_left hn
    have hold : ∀ v, v ∈ st.1 ++ [(c, i, sp)] ↔ v ∈ st.1 ∨ v = (c, i, sp) := fun v => by simp
    refine ⟨fun v h => F.mono v (by simp [h]), by rw [← hcc]; exact hself, fun v hv => ?_, fun v hv => ?_, fun q => ?_, fun v hv => ?_⟩
    rotate_left 3
    · rcases F.kid v hv with h3 | h3
      · rcases (hold v).1 h3 with h3 | rfl
        · exact .inl h3
        · exact .inr hkid
      · exact .inr h3
    rotate_left 0
    · rcases F.closed v hv with h3 | h3
      · rcases (hold v).1 h3 with h3 | rfl
        · exact .inl h3
        · exact .inr hclo
      · exact .inr h3
    · rcases F.reach v hv with h3 | ⟨q, h3, h4, h5⟩
      · rcases (hold v).1 h3 with h3 | rfl
        · exact .inl h3
        · exact .inr (by rw [← hcc]; exact .refl _)
      · exact .inr (by rw [← hcc]; exact .step (hl2 q h3 h4) h5)
    · dsimp only
      have hq0 : q ∈ st2.2 ↔ q ∈ st.2 ∨ ∃ k : Nat, (k, q) ∈ st2.1 ∧ ((k, q) ∉ st.1 ∧ (k, q) ≠ (c, i, sp)) ∧ p.lo ≤ (k : Int) := by
        rw [F.out]
        dsimp only
        refine or_congr Iff.rfl (exists_congr fun k => and_congr_right fun _ => and_congr_left fun _ => ?_)
        rw [hold, not_or]
      have hsplit : (q ∈ (if p.lo ≤ (c : Int) then st2.2 ++ [(i, sp)] else st2.2)) ↔ q ∈ st2.2 ∨ (p.lo ≤ (c : Int) ∧ q = (i, sp)) := by
        split
        · rename_i h; simp [h]
        · rename_i h; simp [h]
      rw [hsplit, hq0]
      constructor
      · rintro ((h3 | ⟨k, h3, h4, h5⟩) | ⟨h3, rfl⟩)
        · exact .inl h3
        · exact .inr ⟨k, h3, h4.1, h5⟩
        · exact .inr ⟨c, hself, hm, h3⟩
      · rintro (h3 | ⟨k, h3, h4, h5⟩)
        · exact .inl (.inl h3)
        · by_cases hk : (k, q) = (c, i, sp)
          · injection hk with hk1 hk2
            subst hk1
            exact .inr ⟨h5, hk2⟩
          · exact .inl (.inr ⟨k, h3, ⟨h4, hk⟩, h5⟩)
theorem Rch.stays {S : List Sit} (hS : ∀ v, v ∈ S → ∀ u, Nxt p gs child v u → u ∈ S) {v u : Sit} (h : Rch p gs child v u) (hv : v ∈ S) : u ∈ S := by
  induction h with
  | refl _ => exact hv
  | step h _ ih => exact ih (hS _ hv _ h)
theorem visit_all {f : Nat} {x : Sit} {st : List Sit × List Parse} (h : visit p gs child f x ([], []) = some st) :
    (∀ v, Rch p gs child (clampC p x.1, x.2) v → (p.hi < 0 ∨ (v.1 : Int) < p.hi) → ∃ l, child v.2.1 (unset v.2.2 gs) = some l) ∧ (∀ q, q ∈ st.2 ↔ ∃ c : Nat, Rch p gs child (clampC p x.1, x.2) (c, q) ∧ p.lo ≤ (c : Int)) := by
  have V := visit_spec p gs child f x _ _ h
  have h1 : ∀ v, v ∈ st.1 ↔ Rch p gs child (clampC p x.1, x.2) v := fun v =>
    ⟨fun hv => (V.reach v hv).resolve_left (by simp), fun hv => Rch.stays p gs child (fun u hu => (V.closed u hu).resolve_left (by simp)) hv V.self⟩
  refine ⟨fun v hv => (V.kid v ((h1 v).2 hv)).resolve_left (by simp), fun q => ?_⟩
  rw [V.out]
  constructor
  · rintro (h2 | ⟨c, h2, -, h3⟩)
    · cases h2
    · exact ⟨c, (h1 _).1 h2, h3⟩
  · rintro ⟨c, h2, h3⟩
    exact .inr ⟨c, (h1 _).2 h2, by simp, h3⟩
end
end Go.Proofs.YthnpbopnpdlmnaaDoor

/- The ends of a tree's parses as a relation, plainly. -/
namespace Go.Proofs.YthnpbopnpdlmnaaDoor
open Go.RowKit

def Iter (R : Nat → Nat → Prop) : Nat → Nat → Nat → Prop
  | 0, i, j => j = i
  | n + 1, i, j => ∃ k, R i k ∧ Iter R n k j
section
variable (s : List UInt8) (lines : Bool)
mutual
def Re.E : Re → Nat → Nat → Prop
  | .mk p xs, i, j =>
    if p.op = 1 then j = i
    else if p.op = 2 then (i < s.length ∧ p.set.has (byteAt s i).toNat = true) ∧ j = i + 1
    else if p.op = 3 then Re.ECat xs i j
    else if p.op = 4 then Re.EAlt xs i j
    else if p.op = 5 then ∃ n : Nat, p.lo ≤ (n : Int) ∧ (p.hi < 0 ∨ (n : Int) ≤ p.hi) ∧ Iter (Re.EFirst xs) n i j
    else if p.op = 6 then Re.EFirst xs i j
    else if p.op = 7 then (i = 0 ∨ lines = true ∧ byteAt s (i - 1) = 10) ∧ j = i
    else if p.op = 8 then (i = s.length ∨ lines = true ∧ byteAt s i = 10) ∧ j = i
    else False
def Re.EFirst : List Re → Nat → Nat → Prop
  | [], _, _ => False
  | x :: _, i, j => x.E i j
def Re.EAlt : List Re → Nat → Nat → Prop
  | [], _, _ => False
  | x :: xs, i, j => x.E i j ∨ Re.EAlt xs i j
def Re.ECat : List Re → Nat → Nat → Prop
  | [], i, j => j = i
  | x :: xs, i, j => ∃ k, x.E i k ∧ Re.ECat xs k j
end
end
mutual
def Re.nob : Re → Prop
  | .mk p xs => (1 ≤ p.op ∧ p.op ≤ 8) ∧ Re.nobs xs
def Re.nobs : List Re → Prop
  | [] => True
  | x :: xs => x.nob ∧ Re.nobs xs
end
theorem iter_le {R : Nat → Nat → Prop} {L : Nat} (hR : ∀ i j, i ≤ L → R i j → i ≤ j ∧ j ≤ L) : ∀ (n i j : Nat), i ≤ L → Iter R n i j → i ≤ j ∧ j ≤ L
  | 0, i, j, hi, h => by rw [Iter] at h; omega
  | n + 1, i, j, hi, h => by
    obtain ⟨k, h1, h2⟩ := h
    have h3 := hR i k hi h1
    have h4 := iter_le hR n k j h3.2 h2
    omega
section
variable (s : List UInt8) (lines : Bool)
mutual
theorem Re.E_le : ∀ (t : Re) (i j : Nat), i ≤ s.length → t.E s lines i j → i ≤ j ∧ j ≤ s.length
  | .mk p xs, i, j, hi, h => by
    rw [Re.E] at h
    split at h
    · omega
    split at h
    · omega
    split at h
    · exact Re.ECat_le xs i j hi h
    split at h
    · exact Re.EAlt_le xs i j hi h
    split at h
    · obtain ⟨n, -, -, h⟩ := h
      exact iter_le (fun i j => Re.EFirst_le xs i j) n i j hi h
    split at h
    · exact Re.EFirst_le xs i j hi h
    split at h
    · omega
    split at h
    · omega
    · exact h.elim
theorem Re.EFirst_le : ∀ (xs : List Re) (i j : Nat), i ≤ s.length → Re.EFirst s lines xs i j → i ≤ j ∧ j ≤ s.length
  | [], i, j, _, h => by rw [Re.EFirst] at h; exact h.elim
  | x :: xs, i, j, hi, h => by rw [Re.EFirst] at h; exact Re.E_le x i j hi h
theorem Re.EAlt_le : ∀ (xs : List Re) (i j : Nat), i ≤ s.length → Re.EAlt s lines xs i j → i ≤ j ∧ j ≤ s.length
  | [], i, j, _, h => by rw [Re.EAlt] at h; exact h.elim
  | x :: xs, i, j, hi, h => by
    rw [Re.EAlt] at h
    rcases h with h | h
    · exact Re.E_le x i j hi h
    · exact Re.EAlt_le xs i j hi h
theorem Re.ECat_le : ∀ (xs : List Re) (i j : Nat), i ≤ s.length → Re.ECat s lines xs i j → i ≤ j ∧ j ≤ s.length
  | [], i, j, hi, h => by rw [Re.ECat] at h; omega
  | x :: xs, i, j, hi, h => by
    rw [Re.ECat] at h
    obtain ⟨k, h1, h2⟩ := h
    have h3 := Re.E_le x i k hi h1
    have h4 := Re.ECat_le xs k j h3.2 h2
    omega
end
end
theorem mapM_mem {α β : Type} {f : α → Option (List β)} : ∀ (l : List α) (m : List (List β)), l.mapM f = some m → ∀ q, q ∈ m.flatten ↔ ∃ a, a ∈ l ∧ ∃ b, f a = some b ∧ q ∈ b
  | [], m, h, q => by simp at h; subst h; simp
  | a :: l, m, h, q => by
    rw [List.mapM_cons] at h
    cases h1 : f a with
    | none => simp [h1] at h
    | some b0 =>
      cases h2 : l.mapM f with
      | none => simp [h1, h2] at h
      | some m0 =>
        simp [h1, h2] at h
        subst h
        have ih := mapM_mem l m0 h2 q
        rw [List.flatten_cons, List.mem_append, ih]
        constructor
        · rintro (h | ⟨a', h3, b, h4, h5⟩)
          · exact ⟨a, by simp, b0, h1, h⟩
          · exact ⟨a', by simp [h3], b, h4, h5⟩
        · rintro ⟨a', h3, b, h4, h5⟩
          rcases List.mem_cons.1 h3 with rfl | h3
          · rw [h1] at h4; rw [← Option.some.inj h4] at h5; exact .inl h5
          · exact .inr ⟨a', h3, b, h4, h5⟩
theorem fin_iff {L : Nat} {l m : List Parse} (h : fin L l = some m) (q : Parse) : q ∈ m ↔ q ∈ l ∧ q.1 ≤ L := by
  unfold fin at h
  split at h
  · cases h
  · have := Option.some.inj h; subst this
    rw [sortP_mem, nub_mem]
def Has (l : List Parse) (j : Nat) : Prop := ∃ q, q ∈ l ∧ q.1 = j
theorem fin_has {L : Nat} {l m : List Parse} (h : fin L l = some m) (hl : ∀ q, q ∈ l → q.1 ≤ L) (j : Nat) : Has m j ↔ Has l j := by
  refine exists_congr fun q => ?_
  rw [fin_iff h]
  exact ⟨fun h => ⟨h.1.1, h.2⟩, fun h => ⟨⟨h.1, hl q h.1⟩, h.2⟩⟩
section
variable (p : Pay) (gs : List Nat) (child : Nat → Spans → Option (List Parse)) (L : Nat) (R : Nat → Nat → Prop)
theorem rch_iter (hR : ∀ i sp l, i ≤ L → child i sp = some l → ∀ j, Has l j ↔ R i j) (hRL : ∀ i j, i ≤ L → R i j → i ≤ j ∧ j ≤ L) {v u : Sit} (h : Rch p gs child v u) : v.2.1 ≤ L → ∃ n, Iter R n v.2.1 u.2.1 ∧ (p.hi < 0 → u.1 ≤ v.1 + n) ∧ (¬ p.hi < 0 → u.1 = v.1 + n ∧ ((v.1 : Int) ≤ p.hi → (u.1 : Int) ≤ p.hi)) := by
  induction h with
  | refl v => intro _; exact ⟨0, rfl, fun _ => Nat.le_refl _, fun _ => ⟨rfl, id⟩⟩
  | @step v u z h _ ih =>
    intro hv
    obtain ⟨hg, l, hl, q, hq, hn, rfl⟩ := h
    have h1 := (hR _ _ _ hv hl q.1).1 ⟨q, hq, rfl⟩
    obtain ⟨n, h2, h3, h4⟩ := ih (hRL _ _ hv h1).2
    refine ⟨n + 1, ⟨q.1, h1, h2⟩, fun h => ?_, fun h => ?_⟩
    · have := h3 h
      dsimp only at this
      unfold clampC at this
      split at this <;> omega
    · have := h4 h
      dsimp only at this
      have h8 : clampC p (v.1 + 1) = v.1 + 1 := by unfold clampC; rw [if_neg (fun h' => h h'.1)]
      rw [h8] at this
      refine ⟨by omega, fun h9 => this.2 ?_⟩
      rcases hg with hg | hg
      · exact absurd hg h
      · omega
theorem iter_rch (hR : ∀ i sp l, i ≤ L → child i sp = some l → ∀ j, Has l j ↔ R i j) (hRL : ∀ i j, i ≤ L → R i j → i ≤ j ∧ j ≤ L) {v0 : Sit} (hkid : ∀ v, Rch p gs child v0 v → (p.hi < 0 ∨ (v.1 : Int) < p.hi) → ∃ l, child v.2.1 (unset v.2.2 gs) = some l) : ∀ (n c i : Nat) (sp : Spans) (j : Nat), i ≤ L → Rch p gs child v0 (c, i, sp) → Iter R n i j → p.lo ≤ (c + n : Int) → (p.hi < 0 ∨ (c + n : Int) ≤ p.hi) →
    ∃ (c' : Nat) (sp' : Spans), Rch p gs child v0 (c', j, sp') ∧ p.lo ≤ (c' : Int)
  | 0, c, i, sp, j, hi, hr, h, h1, h2 => by
    rw [Iter] at h
    subst h
    exact ⟨c, sp, hr, by omega⟩
  | n + 1, c, i, sp, j, hi, hr, h, h1, h2 => by
    obtain ⟨k, h3, h4⟩ := h
    by_cases hs : k = i ∧ p.lo ≤ (c : Int)
    · obtain ⟨rfl, hs⟩ := hs
      exact iter_rch hR hRL hkid n c k sp j hi hr h4 (by omega) (by omega)
    · have hg : p.hi < 0 ∨ (c : Int) < p.hi := by omega
      obtain ⟨l, hl⟩ := hkid _ hr hg
      obtain ⟨q, hq, rfl⟩ := (hR _ _ _ hi hl k).2 h3
      have hN : Nxt p gs child (c, i, sp) (clampC p (c + 1), q) := ⟨hg, l, hl, q, hq, hs, rfl⟩
      refine iter_rch hR hRL hkid n (clampC p (c + 1)) q.1 q.2 j (hRL _ _ hi h3).2 (hr.trans p gs child (.step hN (.refl _))) h4 ?_ ?_
      · unfold clampC; split <;> omega
      · unfold clampC; split <;> omega
theorem visit_has (hR : ∀ i sp l, i ≤ L → child i sp = some l → ∀ j, Has l j ↔ R i j) (hRL : ∀ i j, i ≤ L → R i j → i ≤ j ∧ j ≤ L) {f i : Nat} {sp : Spans} {st : List Sit × List Parse} (h : visit p gs child f (0, i, sp) ([], []) = some st) (hi : i ≤ L) (j : Nat) : Has st.2 j ↔ ∃ n : Nat, p.lo ≤ (n : Int) ∧ (p.hi < 0 ∨ (n : Int) ≤ p.hi) ∧ Iter R n i j := by
  obtain ⟨h1, h2⟩ := visit_all p gs child h
  have h0 : clampC p 0 = 0 := by unfold clampC; split <;> omega
  dsimp only at h1 h2
  rw [h0] at h1 h2
  constructor
  · rintro ⟨q, hq, rfl⟩
    obtain ⟨c, h3, h4⟩ := (h2 q).1 hq
    obtain ⟨n, h5, h6, h7⟩ := rch_iter p gs child L R hR hRL h3 hi
    dsimp only at h5 h6 h7
    by_cases hh : p.hi < 0
    · exact ⟨n, by have := h6 hh; omega, .inl hh, h5⟩
    · have := h7 hh
      exact ⟨n, by omega, .inr (by omega), h5⟩
  · rintro ⟨n, h3, h4, h5⟩
    obtain ⟨c, sp', h6, h7⟩ := iter_rch p gs child L R hR hRL h1 n 0 i sp j hi (.refl _) h5 (by omega) (by omega)
    exact ⟨(j, sp'), (h2 _).2 ⟨c, h6, h7⟩, rfl⟩
end
section
variable (s : List UInt8) (lines : Bool)
theorem has_one (i : Nat) (sp : Spans) (j : Nat) : Has [(i, sp)] j ↔ j = i := by unfold Has; simp [eq_comm]
theorem has_nil (j : Nat) : ¬ Has [] j := by unfold Has; simp
mutual
theorem parses_E : ∀ (t : Re) (i : Nat) (sp : Spans) (l : List Parse), t.nob → i ≤ s.length → parses s lines t i sp = some l → ∀ j, Has l j ↔ t.E s lines i j
  | .mk p xs, i, sp, l, hb, hi, h, j => by
    rw [Re.nob] at hb
    obtain ⟨⟨hop1, hop8⟩, hb⟩ := hb
    rw [parses] at h
    rw [Re.E]
    split at h
    · rename_i h1
      rw [if_pos h1]
      have := Option.some.inj h; subst this
      exact has_one _ _ _
    rename_i h1
    rw [if_neg h1]
    split at h
    · rename_i h2
      rw [if_pos h2]
      have := Option.some.inj h; subst this
      split
      · rename_i hc
        rw [Bool.and_eq_true, decide_eq_true_eq] at hc
        rw [has_one]
        exact ⟨fun h => ⟨hc, h⟩, fun h => h.2⟩
      · rename_i hc
        rw [Bool.and_eq_true, decide_eq_true_eq] at hc
        exact ⟨fun h => absurd h (has_nil j), fun h => absurd h.1 hc⟩
    rename_i h2
    rw [if_neg h2]
    split at h
    · rename_i h3
      rw [if_pos h3]
      obtain ⟨m, h4, h5⟩ := Option.bind_eq_some_iff.1 h
      have hc := catP_E xs [(i, sp)] m hb (fun q hq => by rw [List.mem_singleton.1 hq]; exact hi) h4
      rw [fin_has h5 hc.2, hc.1 j]
      constructor
      · rintro ⟨q, hq, hE⟩; rw [List.mem_singleton.1 hq] at hE; exact hE
      · intro hE; exact ⟨(i, sp), by simp, hE⟩
    rename_i h3
    rw [if_neg h3]
    split at h
    · rename_i h4
      rw [if_pos h4]
      obtain ⟨m, h5, h6⟩ := Option.bind_eq_some_iff.1 h
      have hc := altP_E xs i sp m hb hi h5
      rw [fin_has h6 (fun q hq => (Re.EAlt_le s lines xs i q.1 hi ((hc q.1).1 ⟨q, hq, rfl⟩)).2), hc j]
    rename_i h4
    rw [if_neg h4]
    split at h
    · rename_i h5
      rw [if_pos h5]
      obtain ⟨st, h6, h7⟩ := Option.bind_eq_some_iff.1 h
      have hc := visit_has p (withinAll xs) (firstP s lines xs) s.length (Re.EFirst s lines xs) (fun i sp l hi hl j => firstP_E xs i sp l hb hi hl j) (fun i j => Re.EFirst_le s lines xs i j) h6 hi
      rw [fin_has h7 (fun q hq => ?_), hc j]
      obtain ⟨n, -, -, hn⟩ := (hc q.1).1 ⟨q, hq, rfl⟩
      exact (iter_le (fun i j => Re.EFirst_le s lines xs i j) n i q.1 hi hn).2
    rename_i h5
    rw [if_neg h5]
    split at h
    · rename_i h6
      rw [if_pos h6]
      obtain ⟨m, h7, h8⟩ := Option.bind_eq_some_iff.1 h
      have hc := firstP_E xs i sp m hb hi h7
      have hm : ∀ k, Has (m.map fun q => (q.1, q.2.set (p.gr.toNat - 1) ((i : Int), (q.1 : Int)))) k ↔ Has m k := by
        intro k
        constructor
        · rintro ⟨q, hq, rfl⟩
          obtain ⟨q0, h9, rfl⟩ := List.mem_map.1 hq
          exact ⟨q0, h9, rfl⟩
        · rintro ⟨q0, h9, rfl⟩
          exact ⟨_, List.mem_map.2 ⟨q0, h9, rfl⟩, rfl⟩
      rw [fin_has h8 (fun q hq => (Re.EFirst_le s lines xs i q.1 hi ((hc q.1).1 ((hm _).1 ⟨q, hq, rfl⟩))).2), hm, hc j]
    rename_i h6
    rw [if_neg h6]
    split at h
    · rename_i h7
      rw [if_pos h7]
      have := Option.some.inj h; subst this
      split
      · rename_i hc
        rw [Bool.or_eq_true, Bool.and_eq_true, decide_eq_true_eq, decide_eq_true_eq] at hc
        rw [has_one]
        exact ⟨fun h => ⟨hc, h⟩, fun h => h.2⟩
      · rename_i hc
        rw [Bool.or_eq_true, Bool.and_eq_true, decide_eq_true_eq, decide_eq_true_eq] at hc
        exact ⟨fun h => absurd h (has_nil j), fun h => absurd h.1 hc⟩
    rename_i h7
    rw [if_neg h7]
    split at h
    · rename_i h8
      rw [if_pos h8]
      have := Option.some.inj h; subst this
      split
      · rename_i hc
        rw [Bool.or_eq_true, Bool.and_eq_true, decide_eq_true_eq, decide_eq_true_eq] at hc
        rw [has_one]
        exact ⟨fun h => ⟨hc, h⟩, fun h => h.2⟩
      · rename_i hc
        rw [Bool.or_eq_true, Bool.and_eq_true, decide_eq_true_eq, decide_eq_true_eq] at hc
        exact ⟨fun h => absurd h (has_nil j), fun h => absurd h.1 hc⟩
    · exfalso; omega
theorem firstP_E : ∀ (xs : List Re) (i : Nat) (sp : Spans) (l : List Parse), Re.nobs xs → i ≤ s.length → firstP s lines xs i sp = some l → ∀ j, Has l j ↔ Re.EFirst s lines xs i j
  | [], i, sp, l, _, _, h, j => by rw [firstP] at h; cases h
  | x :: xs, i, sp, l, hb, hi, h, j => by
    rw [firstP] at h
    rw [Re.nobs] at hb
    rw [Re.EFirst]
    exact parses_E x i sp l hb.1 hi h j
theorem altP_E : ∀ (xs : List Re) (i : Nat) (sp : Spans) (l : List Parse), Re.nobs xs → i ≤ s.length → altP s lines xs i sp = some l → ∀ j, Has l j ↔ Re.EAlt s lines xs i j
  | [], i, sp, l, _, _, h, j => by
    rw [altP] at h; have := Option.some.inj h; subst this
    rw [Re.EAlt]
    exact ⟨fun h => absurd h (has_nil j), fun h => h.elim⟩
  | x :: xs, i, sp, l, hb, hi, h, j => by
    rw [altP] at h
    rw [Re.nobs] at hb
    simp only [Option.bind_eq_some_iff] at h
    obtain ⟨a, h1, b, h2, h3⟩ := h
    have := Option.some.inj h3; subst this
    rw [Re.EAlt, ← parses_E x i sp a hb.1 hi h1 j, ← altP_E xs i sp b hb.2 hi h2 j]
    unfold Has
    constructor
    · rintro ⟨q, hq, e⟩
      rcases List.mem_append.1 hq with hq | hq
      · exact .inl ⟨q, hq, e⟩
      · exact .inr ⟨q, hq, e⟩
    · rintro (⟨q, hq, e⟩ | ⟨q, hq, e⟩)
      · exact ⟨q, List.mem_append.2 (.inl hq), e⟩
      · exact ⟨q, List.mem_append.2 (.inr hq), e⟩
theorem catP_E : ∀ (xs : List Re) (l m : List Parse), Re.nobs xs → (∀ q, q ∈ l → q.1 ≤ s.length) → catP s lines xs l = some m → (∀ j, Has m j ↔ ∃ q, q ∈ l ∧ Re.ECat s lines xs q.1 j) ∧ ∀ q, q ∈ m → q.1 ≤ s.length
  | [], l, m, _, hl, h => by
    rw [catP] at h; have := Option.some.inj h; subst this
    refine ⟨fun j => ?_, hl⟩
    unfold Has
    simp only [Re.ECat]
    exact ⟨fun ⟨q, h1, h2⟩ => ⟨q, h1, h2.symm⟩, fun ⟨q, h1, h2⟩ => ⟨q, h1, h2.symm⟩⟩
  | x :: xs, l, m, hb, hl, h => by
    rw [catP] at h
    rw [Re.nobs] at hb
    rw [Option.bind_eq_some_iff] at h
    obtain ⟨ms, h1, h2⟩ := h
    split at h2
    · cases h2
    have hmem : ∀ q, q ∈ nub ms.flatten ↔ ∃ a, a ∈ l ∧ ∃ b, parses s lines x a.1 a.2 = some b ∧ q ∈ b := fun q => by rw [nub_mem, mapM_mem l ms h1]
    have hE : ∀ k, Has (nub ms.flatten) k ↔ ∃ a, a ∈ l ∧ x.E s lines a.1 k := by
      intro k
      constructor
      · rintro ⟨q, hq, rfl⟩
        obtain ⟨a, ha, b, hb1, hb2⟩ := (hmem q).1 hq
        exact ⟨a, ha, (parses_E x a.1 a.2 b hb.1 (hl a ha) hb1 q.1).1 ⟨q, hb2, rfl⟩⟩
      · rintro ⟨a, ha, hk⟩
        obtain ⟨b, hb1⟩ : ∃ b, parses s lines x a.1 a.2 = some b := by
          cases hp : parses s lines x a.1 a.2 with
          | some b => exact ⟨b, rfl⟩
          | none =>
            exfalso
            have : ∀ (l : List Parse) (ms : List (List Parse)), l.mapM (fun q => parses s lines x q.1 q.2) = some ms → a ∈ l → False := by
              intro l
              induction l with
              | nil => intro ms _ h; cases h
              | cons c l ih =>
                intro ms h hm
                rw [List.mapM_cons] at h
                cases hc : parses s lines x c.1 c.2 with
                | none => simp [hc] at h
                | some b0 =>
                  cases h2 : l.mapM (fun q => parses s lines x q.1 q.2) with
                  | none => simp [hc, h2] at h
                  | some m0 =>
                    rcases List.mem_cons.1 hm with rfl | hm
                    · rw [hp] at hc; cases hc
                    · exact ih m0 h2 hm
            exact this l ms h1 ha
        obtain ⟨q, hq, rfl⟩ := (parses_E x a.1 a.2 b hb.1 (hl a ha) hb1 k).2 hk
        exact ⟨q, (hmem q).2 ⟨a, ha, b, hb1, hq⟩, rfl⟩
    have hl2 : ∀ q, q ∈ nub ms.flatten → q.1 ≤ s.length := fun q hq => by
      obtain ⟨a, ha, hk⟩ := (hE q.1).1 ⟨q, hq, rfl⟩
      exact (Re.E_le s lines x a.1 q.1 (hl a ha) hk).2
    obtain ⟨h3, h4⟩ := catP_E xs (nub ms.flatten) m hb.2 hl2 h2
    refine ⟨fun j => ?_, h4⟩
    rw [h3 j]
    simp only [Re.ECat]
    constructor
    · rintro ⟨q, hq, hk⟩
      obtain ⟨a, ha, h5⟩ := (hE q.1).1 ⟨q, hq, rfl⟩
      exact ⟨a, ha, q.1, h5, hk⟩
    · rintro ⟨a, ha, k, h5, hk⟩
      obtain ⟨q, hq, rfl⟩ := (hE k).2 ⟨a, ha, h5⟩
      exact ⟨q, hq, hk⟩
end
end
end Go.Proofs.YthnpbopnpdlmnaaDoor
