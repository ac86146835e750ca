/- The order of parses, plainly: they are sorted by their ends, no two are equal, and the spans of groups lie within them. -/
import Derived.Test.YthnpbopnpdlmnaaD22
import Derived.Test.YthnpbopnpdlmnaaD04
namespace Go.Proofs.Ythnpbopnpdlmnaa
open Go.RowKit

def Neat (l : List Parse) : Prop := l.Pairwise (fun x y => y.1 ≤ x.1) ∧ l.Nodup
theorem Neat.nil : Neat [] := ⟨by simp, by simp⟩
theorem Neat.one (q : Parse) : Neat [q] := ⟨by simp, by simp⟩
theorem fin_neat {L : Nat} {l m : List Parse} (h : fin L l = some m) : Neat m := by
  unfold fin at h
  split at h
  · cases h
  · have := Option.some.inj h; subst this
    refine ⟨sortP_desc _ _, ?_⟩
    rw [← nub_sortP]
    exact nub_nodup _
theorem parses_neat {s : List UInt8} {lines : Bool} : ∀ {t : Re} {i : Nat} {sp : Spans} {l : List Parse}, parses s lines t i sp = some l → Neat l
  | .mk p xs, i, sp, l, h => by
    rw [parses] at h
    split at h
    · have := Option.some.inj h; subst this; exact .one _
    split at h
    · have := Option.some.inj h; subst this
      split
      · exact .one _
      · exact .nil
    split at h
    · obtain ⟨m, h1, h2⟩ := Option.bind_eq_some_iff.1 h; exact fin_neat h2
    split at h
    · obtain ⟨m, h1, h2⟩ := Option.bind_eq_some_iff.1 h; exact fin_neat h2
    split at h
    · obtain ⟨m, h1, h2⟩ := Option.bind_eq_some_iff.1 h; exact fin_neat h2
    split at h
    · obtain ⟨m, h1, h2⟩ := Option.bind_eq_some_iff.1 h; exact fin_neat h2
    split at h
    · have := Option.some.inj h; subst this
      split
      · exact .one _
      · exact .nil
    split at h
    · have := Option.some.inj h; subst this
      split
      · exact .one _
      · exact .nil
    · have := Option.some.inj h; subst this
      split
      · exact .one _
      · exact .nil
section
variable (s : List UInt8) (lines : Bool) (N i0 : Nat)
end
theorem parsesR_neat {t : Re} {s : ByteArray} {at_ : Int} {lines : Bool} : Neat (parsesR t s at_ lines).1 := by
  unfold parsesR
  split
  · exact .nil
  · cases h : parses s.data.toList lines t at_.toNat (unsetAll t.groups) with
    | none => exact .nil
    | some l => exact parses_neat h
end Go.Proofs.Ythnpbopnpdlmnaa

/- What a repetition visits, plainly: all that can be reached. -/
namespace Go.Proofs.Ythnpbopnpdlmnaa
open Go.RowKit

def clampC (p : Pay) (c : Nat) : Nat := if p.hi < 0 ∧ p.lo < (c : Int) then p.lo.toNat else c
section
variable (p : Pay) (gs : List Nat) (child : Nat → Spans → Option (List Parse))
def Nxt (v u : Sit) : Prop := (p.hi < 0 ∨ (v.1 : Int) < p.hi) ∧ ∃ l, child v.2.1 (unset v.2.2 gs) = some l ∧ ∃ q, q ∈ l ∧ ¬ (q.1 = v.2.1 ∧ p.lo ≤ (v.1 : Int)) ∧ u = (clampC p (v.1 + 1), q)
inductive Rch : Sit → Sit → Prop
  | refl (v : Sit) : Rch v v
  | step {v u z : Sit} : Nxt p gs child v u → Rch u z → Rch v z
theorem Rch.trans {v u z : Sit} (h : Rch p gs child v u) (k : Rch p gs child u z) : Rch p gs child v z := by
  induction h with
  | refl _ => exact k
  | step h _ ih => exact .step h (ih k)
structure VSpec (x : Sit) (st st' : List Sit × List Parse) : Prop where
  mono : ∀ v, v ∈ st.1 → v ∈ st'.1
  self : (clampC p x.1, x.2) ∈ st'.1
  closed : ∀ v, v ∈ st'.1 → v ∈ st.1 ∨ ∀ u, Nxt p gs child v u → u ∈ st'.1
  reach : ∀ v, v ∈ st'.1 → v ∈ st.1 ∨ Rch p gs child (clampC p x.1, x.2) v
  out : ∀ q, q ∈ st'.2 ↔ q ∈ st.2 ∨ ∃ c : Nat, (c, q) ∈ st'.1 ∧ (c, q) ∉ st.1 ∧ p.lo ≤ (c : Int)
  kid : ∀ v, v ∈ st'.1 → v ∈ st.1 ∨ ((p.hi < 0 ∨ (v.1 : Int) < p.hi) → ∃ l, child v.2.1 (unset v.2.2 gs) = some l)
theorem VSpec.done {x : Sit} {st : List Sit × List Parse} (h : (clampC p x.1, x.2) ∈ st.1) : VSpec p gs child x st st :=
  ⟨fun _ h => h, h, fun _ h => .inl h, fun _ h => .inl h, fun _ => ⟨.inl, fun h => h.elim id fun ⟨_, h1, h2, _⟩ => absurd h1 h2⟩, fun _ h => .inl h⟩
structure FSpec (v0 : Sit) (l : List Parse) (st st' : List Sit × List Parse) : Prop where
  mono : ∀ v, v ∈ st.1 → v ∈ st'.1
  all : ∀ q, q ∈ l → (q.1 = v0.2.1 ∧ p.lo ≤ (v0.1 : Int)) ∨ (clampC p (v0.1 + 1), q) ∈ st'.1
  closed : ∀ v, v ∈ st'.1 → v ∈ st.1 ∨ ∀ u, Nxt p gs child v u → u ∈ st'.1
  reach : ∀ v, v ∈ st'.1 → v ∈ st.1 ∨ ∃ q, q ∈ l ∧ ¬ (q.1 = v0.2.1 ∧ p.lo ≤ (v0.1 : Int)) ∧ Rch p gs child (clampC p (v0.1 + 1), q) v
  out : ∀ q, q ∈ st'.2 ↔ q ∈ st.2 ∨ ∃ c : Nat, (c, q) ∈ st'.1 ∧ (c, q) ∉ st.1 ∧ p.lo ≤ (c : Int)
  kid : ∀ v, v ∈ st'.1 → v ∈ st.1 ∨ ((p.hi < 0 ∨ (v.1 : Int) < p.hi) → ∃ l, child v.2.1 (unset v.2.2 gs) = some l)
theorem fold_spec {f : Nat} (hv : ∀ x st st', visit p gs child f x st = some st' → VSpec p gs child x st st') (c : Nat) (j : Nat) (sp : Spans) : ∀ (l : List Parse) (st st' : List Sit × List Parse),
    l.foldlM (fun st q => if q.1 = j ∧ p.lo ≤ (c : Int) then some st else visit p gs child f (c + 1, q.1, q.2) st) st = some st' → FSpec p gs child (c, j, sp) l st st'
  | [], st, st', h => by
    have := Option.some.inj h; subst this
    exact ⟨fun _ h => h, (fun _ h => by cases h), fun _ h => .inl h, fun _ h => .inl h, fun q => ⟨.inl, fun h => h.elim id fun ⟨c, h1, h2, _⟩ => absurd h1 h2⟩, fun _ h => .inl h⟩
  | a :: l, st, st', h => by
    rw [List.foldlM_cons] at h
    obtain ⟨s1, h1, h2⟩ := Option.bind_eq_some_iff.1 h
    have F := fold_spec hv c j sp l s1 st' h2
    by_cases hs : a.1 = j ∧ p.lo ≤ (c : Int)
    · rw [if_pos hs] at h1
      have := Option.some.inj h1; subst this
      refine ⟨F.mono, fun q hq => ?_, F.closed, fun v hv => (F.reach v hv).imp id fun ⟨q, h3, h4⟩ => ⟨q, List.mem_cons_of_mem _ h3, h4⟩, F.out, F.kid⟩
      rcases List.mem_cons.1 hq with rfl | hq
      · exact .inl hs
      · exact F.all q hq
    · rw [if_neg hs] at h1
      have V := hv _ _ _ h1
      refine ⟨fun v h => F.mono v (V.mono v h), fun q hq => ?_, fun v hm => ?_, fun v hm => ?_, fun q => ?_, fun v hm => (F.kid v hm).elim (V.kid v) .inr⟩
      · rcases List.mem_cons.1 hq with rfl | hq
        · exact .inr (F.mono _ V.self)
        · exact F.all q hq
      · rcases F.closed v hm with h3 | h3
        · exact (V.closed v h3).imp id fun h4 u hu => F.mono u (h4 u hu)
        · exact .inr h3
      · rcases F.reach v hm with h3 | ⟨q, h3, h4⟩
        · exact (V.reach v h3).imp id fun h4 => ⟨a, by simp, hs, h4⟩
        · exact .inr ⟨q, List.mem_cons_of_mem _ h3, h4⟩
      · rw [F.out, V.out]
        constructor
        · rintro ((h3 | ⟨k, h3, h4, h5⟩) | ⟨k, h3, h4, h5⟩)
          · exact .inl h3
          · exact .inr ⟨k, F.mono _ h3, h4, h5⟩
          · exact .inr ⟨k, h3, fun hm => h4 (V.mono _ hm), h5⟩
        · rintro (h3 | ⟨k, h3, h4, h5⟩)
          · exact .inl (.inl h3)
          · by_cases hk : (k, q) ∈ s1.1
            · exact .inl (.inr ⟨k, hk, h4, h5⟩)
            · exact .inr ⟨k, h3, hk, h5⟩
theorem visit_spec : ∀ (f : Nat) (x : Sit) (st st' : List Sit × List Parse), visit p gs child f x st = some st' → VSpec p gs child x st st'
  | 0, x, st, st', h => by cases h
  | f + 1, (c0, i, sp), st, st', h => by
    rw [visit] at h
    dsimp only at h
    have hc : (if p.hi < 0 ∧ p.lo < (c0 : Int) then p.lo.toNat else c0) = clampC p c0 := rfl
    rw [hc] at h
    obtain ⟨c, hcc⟩ : ∃ c, c = clampC p c0 := ⟨_, rfl⟩
    rw [← hcc] at h
    split at h
    · rename_i hm
      have := Option.some.inj h; subst this
      exact VSpec.done p gs child (by rw [← hcc]; exact hm)
    rename_i hm
    split at h
    · cases h
    rw [Option.bind_eq_some_iff] at h
    obtain ⟨st2, h1, h2⟩ := h
    have := Option.some.inj h2
    subst this
    have F : ∃ l, FSpec p gs child (c, i, sp) l (st.1 ++ [(c, i, sp)], st.2) st2 ∧ ((p.hi < 0 ∨ (c : Int) < p.hi) → ∃ l, child i (unset sp gs) = some l) ∧ (∀ u, Nxt p gs child (c, i, sp) u → ∃ q, q ∈ l ∧ ¬ (q.1 = i ∧ p.lo ≤ (c : Int)) ∧ u = (clampC p (c + 1), q)) ∧ (∀ q, q ∈ l → ¬ (q.1 = i ∧ p.lo ≤ (c : Int)) → Nxt p gs child (c, i, sp) (clampC p (c + 1), q)) := by
      split at h1
      · rename_i hg
        obtain ⟨l, h4, h5⟩ := Option.bind_eq_some_iff.1 h1
        refine ⟨l, fold_spec p gs child (fun x st st' => visit_spec f x st st') c i sp l _ _ h5, fun _ => ⟨l, h4⟩, fun u hu => ?_, fun q hq hn => ⟨hg, l, h4, q, hq, hn, rfl⟩⟩
        obtain ⟨-, l', hl', q, hq, hn, hu⟩ := hu
        have := Option.some.inj (hl'.symm.trans h4); subst this
        exact ⟨q, hq, hn, hu⟩
      · rename_i hg
        have := Option.some.inj h1; subst this
        exact ⟨[], ⟨fun _ h => h, (fun _ h => by cases h), fun _ h => .inl h, fun _ h => .inl h, fun q => ⟨.inl, fun h => h.elim id fun ⟨c, h1, h2, _⟩ => absurd h1 h2⟩, fun _ h => .inl h⟩, fun h => absurd h hg, fun u hu => absurd hu.1 hg, fun q hq => by cases hq⟩
    obtain ⟨l, F, hkid, hl1, hl2⟩ := F
    have hself : (c, i, sp) ∈ st2.1 := F.mono _ (by simp)
    have hclo : ∀ u, Nxt p gs child (c, i, sp) u → u ∈ st2.1 := fun u hu => by
      obtain ⟨q, hq, hn, rfl⟩ := hl1 u hu
      exact (F.all q hq).resolve_left hn
    have hold : ∀ v, v ∈ st.1 ++ [(c, i, sp)] ↔ v ∈ st.1 ∨ v = (c, i, sp) := fun v => by simp
    refine ⟨fun v h => F.mono v (by simp [h]), by rw [← hcc]; exact hself, fun v hv => ?_, fun v hv => ?_, fun q => ?_, fun v hv => ?_⟩
    rotate_left 3
    · rcases F.kid v hv with h3 | h3
      · rcases (hold v).1 h3 with h3 | rfl
        · exact .inl h3
        · exact .inr hkid
      · exact .inr h3
    rotate_left 0
    · rcases F.closed v hv with h3 | h3
      · rcases (hold v).1 h3 with h3 | rfl
        · exact .inl h3
        · exact .inr hclo
      · exact .inr h3
    · rcases F.reach v hv with h3 | ⟨q, h3, h4, h5⟩
      · rcases (hold v).1 h3 with h3 | rfl
        · exact .inl h3
        · exact .inr (by rw [← hcc]; exact .refl _)
      · exact .inr (by rw [← hcc]; exact .step (hl2 q h3 h4) h5)
    · dsimp only
      have hq0 : q ∈ st2.2 ↔ q ∈ st.2 ∨ ∃ k : Nat, (k, q) ∈ st2.1 ∧ ((k, q) ∉ st.1 ∧ (k, q) ≠ (c, i, sp)) ∧ p.lo ≤ (k : Int) := by
        rw [F.out]
        dsimp only
        refine or_congr Iff.rfl (exists_congr fun k => and_congr_right fun _ => and_congr_left fun _ => ?_)
        rw [hold, not_or]
      have hsplit : (q ∈ (if p.lo ≤ (c : Int) then st2.2 ++ [(i, sp)] else st2.2)) ↔ q ∈ st2.2 ∨ (p.lo ≤ (c : Int) ∧ q = (i, sp)) := by
        split
        · rename_i h; simp [h]
        · rename_i h; simp [h]
      rw [hsplit, hq0]
      constructor
      · rintro ((h3 | ⟨k, h3, h4, h5⟩) | ⟨h3, rfl⟩)
        · exact .inl h3
        · exact .inr ⟨k, h3, h4.1, h5⟩
        · exact .inr ⟨c, hself, hm, h3⟩
      · rintro (h3 | ⟨k, h3, h4, h5⟩)
        · exact .inl (.inl h3)
        · by_cases hk : (k, q) = (c, i, sp)
          · injection hk with hk1 hk2
            subst hk1
            exact .inr ⟨h5, hk2⟩
          · exact .inl (.inr ⟨k, h3, ⟨h4, hk⟩, h5⟩)
theorem Rch.stays {S : List Sit} (hS : ∀ v, v ∈ S → ∀ u, Nxt p gs child v u → u ∈ S) {v u : Sit} (h : Rch p gs child v u) (hv : v ∈ S) : u ∈ S := by
  induction h with
  | refl _ => exact hv
  | step h _ ih => exact ih (hS _ hv _ h)
theorem visit_all {f : Nat} {x : Sit} {st : List Sit × List Parse} (h : visit p gs child f x ([], []) = some st) :
    (∀ v, Rch p gs child (clampC p x.1, x.2) v → (p.hi < 0 ∨ (v.1 : Int) < p.hi) → ∃ l, child v.2.1 (unset v.2.2 gs) = some l) ∧ (∀ q, q ∈ st.2 ↔ ∃ c : Nat, Rch p gs child (clampC p x.1, x.2) (c, q) ∧ p.lo ≤ (c : Int)) := by
  have V := visit_spec p gs child f x _ _ h
  have h1 : ∀ v, v ∈ st.1 ↔ Rch p gs child (clampC p x.1, x.2) v := fun v =>
    ⟨fun hv => (V.reach v hv).resolve_left (by simp), fun hv => Rch.stays p gs child (fun u hu => (V.closed u hu).resolve_left (by simp)) hv V.self⟩
  refine ⟨fun v hv => (V.kid v ((h1 v).2 hv)).resolve_left (by simp), fun q => ?_⟩
  rw [V.out]
  constructor
  · rintro (h2 | ⟨c, h2, -, h3⟩)
    · cases h2
    · exact ⟨c, (h1 _).1 h2, h3⟩
  · rintro ⟨c, h2, h3⟩
    exact .inr ⟨c, (h1 _).2 h2, by simp, h3⟩
theorem visit_total {U : List Sit} (hU : U.length ≤ most) (hch : ∀ v, v ∈ U → (p.hi < 0 ∨ (v.1 : Int) < p.hi) → ∃ l, child v.2.1 (unset v.2.2 gs) = some l ∧ ∀ q, q ∈ l → ¬ (q.1 = v.2.1 ∧ p.lo ≤ (v.1 : Int)) → (clampC p (v.1 + 1), q) ∈ U) :
    ∀ (f : Nat) (x : Sit) (st : List Sit × List Parse), (clampC p x.1, x.2) ∈ U → (∀ v, v ∈ st.1 → v ∈ U) → st.1.Nodup → most + 1 ≤ f + st.1.length →
    ∃ st', visit p gs child f x st = some st' ∧ (∀ v, v ∈ st'.1 → v ∈ U) ∧ st'.1.Nodup ∧ st.1.length ≤ st'.1.length
  | 0, x, st, hx, hst, hnd, hf => by
    have := (List.subset_def.2 (fun {a} h => hst a h) : st.1 ⊆ U)
    have := List.Nodup.length_le_of_subset hnd this
    omega
  | f + 1, (c0, i, sp), st, hx, hst, hnd, hf => by
    rw [visit]
    dsimp only
    have hc : (if p.hi < 0 ∧ p.lo < (c0 : Int) then p.lo.toNat else c0) = clampC p c0 := rfl
    rw [hc]
    dsimp only at hx
    obtain ⟨c, hcc⟩ : ∃ c, c = clampC p c0 := ⟨_, rfl⟩
    rw [← hcc] at hx ⊢
    by_cases hm : (c, i, sp) ∈ st.1
    · rw [if_pos hm]
      exact ⟨st, rfl, hst, hnd, Nat.le_refl _⟩
    rw [if_neg hm]
    have hnd1 : (st.1 ++ [(c, i, sp)]).Nodup := List.nodup_append.2 ⟨hnd, by simp, by intro a ha b hb; simp at hb; subst hb; rintro rfl; exact hm ha⟩
    have hst1 : ∀ v, v ∈ st.1 ++ [(c, i, sp)] → v ∈ U := fun v hv => by
      rcases List.mem_append.1 hv with h | h
      · exact hst v h
      · rw [List.mem_singleton.1 h]; exact hx
    have hlen := List.Nodup.length_le_of_subset hnd1 (List.subset_def.2 (fun {a} h => hst1 a h) : _ ⊆ U)
    rw [List.length_append, List.length_singleton] at hlen
    rw [if_neg (by omega)]
    have key : ∃ st2, (if p.hi < 0 ∨ (c : Int) < p.hi then (child i (unset sp gs)).bind fun l => l.foldlM (fun st q => if q.1 = i ∧ p.lo ≤ (c : Int) then some st else visit p gs child f (c + 1, q.1, q.2) st) (st.1 ++ [(c, i, sp)], st.2) else some (st.1 ++ [(c, i, sp)], st.2)) = some st2 ∧ (∀ v, v ∈ st2.1 → v ∈ U) ∧ st2.1.Nodup ∧ st.1.length ≤ st2.1.length := by
      split
      · rename_i hg
        obtain ⟨l, hl, hq⟩ := hch _ hx hg
        dsimp only at hl hq
        rw [hl]
        have fold : ∀ (l' : List Parse) (s1 : List Sit × List Parse), (∀ q, q ∈ l' → q ∈ l) → (∀ v, v ∈ s1.1 → v ∈ U) → s1.1.Nodup → most + 1 ≤ f + s1.1.length → st.1.length ≤ s1.1.length →
            ∃ st2, l'.foldlM (fun st q => if q.1 = i ∧ p.lo ≤ (c : Int) then some st else visit p gs child f (c + 1, q.1, q.2) st) s1 = some st2 ∧ (∀ v, v ∈ st2.1 → v ∈ U) ∧ st2.1.Nodup ∧ st.1.length ≤ st2.1.length := by
          intro l'
          induction l' with
          | nil => intro s1 _ h1 h2 _ h4; exact ⟨s1, rfl, h1, h2, h4⟩
          | cons a l' ih =>
            intro s1 hsub h1 h2 h3 h4
            rw [List.foldlM_cons]
            by_cases hs : a.1 = i ∧ p.lo ≤ (c : Int)
            · rw [if_pos hs]
              exact ih s1 (fun q hq => hsub q (by simp [hq])) h1 h2 h3 h4
            · rw [if_neg hs]
              obtain ⟨s2, e2, g1, g2, g3⟩ := visit_total hU hch f (c + 1, a.1, a.2) s1 (hq a (hsub a (by simp)) hs) h1 h2 h3
              rw [e2]
              exact ih s2 (fun q hq => hsub q (by simp [hq])) g1 g2 (by omega) (by omega)
        exact fold l _ (fun _ h => h) hst1 hnd1 (by simp; omega) (by simp)
      · exact ⟨_, rfl, hst1, hnd1, by simp⟩
    obtain ⟨st2, h1, h2, h3, h4⟩ := key
    rw [h1]
    exact ⟨_, rfl, h2, h3, h4⟩
end
end Go.Proofs.Ythnpbopnpdlmnaa

/- Matching further on, plainly: without anchors at the beginning, the parses behind other bytes are the parses, moved. -/
namespace Go.Proofs.Ythnpbopnpdlmnaa
open Go.RowKit

theorem filter_end {L : Nat} {l : List Parse} (hl : ∀ q, q ∈ l → q.1 ≤ L) (e : Nat) : (sortP L l).filter (fun q => q.1 == e) = l.filter fun q => q.1 == e := by
  suffices h : ∀ es : List Nat, es.Nodup → (∀ q, q ∈ l → q.1 ∈ es) → (es.flatMap fun k => l.filter fun q => q.1 == k).filter (fun q => q.1 == e) = l.filter fun q => q.1 == e by
    exact h _ (List.pairwise_reverse.2 (List.nodup_range.imp fun h e => h e.symm)) (fun q hq => by have := hl q hq; simp; omega)
  have hk : ∀ k, (l.filter fun q => q.1 == k).filter (fun q => q.1 == e) = if k = e then l.filter (fun q => q.1 == e) else [] := by
    intro k
    split
    · rename_i h; subst h; rw [List.filter_filter]; exact List.filter_congr fun q _ => by simp
    · rename_i h
      rw [List.filter_eq_nil_iff]
      intro q hq
      have h1 := (List.mem_filter.1 hq).2
      simp at h1
      simp
      omega
  intro es hnd hmem
  have hes : ∀ es : List Nat, es.Nodup → (es.flatMap fun k => l.filter fun q => q.1 == k).filter (fun q => q.1 == e) = if e ∈ es then l.filter (fun q => q.1 == e) else [] := by
    intro es
    induction es with
    | nil => intro _; simp
    | cons k es ih =>
      intro hn
      rw [List.nodup_cons] at hn
      rw [List.flatMap_cons, List.filter_append, hk, ih hn.2]
      by_cases h : k = e
      · subst h
        rw [if_pos rfl, if_neg hn.1, if_pos (by simp)]; simp
      · rw [if_neg h]
        by_cases h2 : e ∈ es
        · rw [if_pos h2, if_pos (by simp [h2])]; rfl
        · rw [if_neg h2, if_neg (by simp [h2]; exact fun h3 => h h3.symm)]; rfl
  rw [hes es hnd]
  split
  · rfl
  · rename_i h
    symm
    rw [List.filter_eq_nil_iff]
    intro q hq hqe
    simp at hqe
    exact h (by rw [← hqe]; exact hmem q hq)
section
variable (p : Pay) (gs : List Nat) (child child' : Nat → Spans → Option (List Parse)) (n : Nat) (G : Parse → Prop)
theorem visit_succ (f : Nat) (x : Sit) (st : List Sit × List Parse) : visit p gs child (f + 1) x st = if (clampC p x.1, x.2) ∈ st.1 then some st else if most < st.1.length + 1 then none else
    (if p.hi < 0 ∨ (clampC p x.1 : Int) < p.hi then (child x.2.1 (unset x.2.2 gs)).bind fun l => l.foldlM (fun st q => if q.1 = x.2.1 ∧ p.lo ≤ (clampC p x.1 : Int) then some st else visit p gs child f (clampC p x.1 + 1, q.1, q.2) st) (st.1 ++ [(clampC p x.1, x.2)], st.2) else some (st.1 ++ [(clampC p x.1, x.2)], st.2)).bind fun st => some (st.1, if p.lo ≤ (clampC p x.1 : Int) then st.2 ++ [x.2] else st.2) := rfl
end
section
variable (b s : List UInt8) (N : Nat)
end
end Go.Proofs.Ythnpbopnpdlmnaa
