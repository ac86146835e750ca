/- The first parse that does: repetitions, and all trees. -/
import Derived.Test.YthnpbopnpdlmnaaB45
import Derived.Test.YthnpbopnpdlmnaaB26
import Derived.Test.YthnpbopnpdlmnaaB43
namespace Go.Proofs.Ythnpbopnpdlmnaa
open Go.RowKit

section
variable (s : List UInt8) (lines : Bool)
theorem fold_app {p : Pay} {gs : List Nat} {child : Nat → Spans → Option (List Parse)} {f i cc : Nat} {l : List Parse} {st s2 : List Sit × List Parse} (h : l.foldlM (fun st q => if q.1 = i ∧ p.lo ≤ (cc : Int) then some st else visit p gs child f (cc + 1, q.1, q.2) st) st = some s2) : ∃ add, s2.2 = st.2 ++ add := by
  refine foldlM_inv (P := fun u : List Sit × List Parse => ∃ add, u.2 = st.2 ++ add) l _ s2 h ⟨[], by simp⟩ fun u a u' _ hu hf => ?_
  split at hf
  · have := Option.some.inj hf; subst this; exact hu
  · obtain ⟨a1, e1⟩ := hu
    obtain ⟨a2, e2⟩ := visit_app f _ _ _ hf
    exact ⟨a1 ++ a2, by rw [e2, e1, List.append_assoc]⟩
theorem visit_fst {N k : Nat} {p : Pay} {x : Re} {K : Kont} (H : PartF s lines N x) (hx : x.ok N) (hr : -1 ≤ p.hi) (hk : k ≤ s.length) :
    ∀ (f c i : Nat) (sp : Spans) (st st' : List Sit × List Parse) (o : Out), visit p (withinOf x) (parses s lines x) f (c, i, sp) st = some st' → SpOk N s.length sp → i ≤ s.length →
      (∀ v, v ∈ st.1 → (v.1 < clampC p c ∨ v.1 = clampC p c ∧ v.2.1 < i) ∨ Fld s lines p x k K v) → RepO s lines p x k K c (i, sp) o → o ≠ .over →
      (∃ add, st'.2 = st.2 ++ add ∧ Fst (NextO s lines K) (at_ k add) o) ∧ (o = .fail → ∀ v, v ∈ st'.1 → v ∈ st.1 ∨ Fld s lines p x k K v)
  | 0, c, i, sp, st, st', o, h, _, _, _, _, _ => by cases h
  | f + 1, c, i, sp, st, st', o, h, hsp, hi, hv, hre, ho => by
    have hre := hre.clamp s lines (clampC_clampC p c).symm
    have hcc := clampC_clampC p c
    rw [visit_succ] at h
    dsimp only at h
    generalize clampC p c = cc at *
    split at h
    · rename_i hm
      have := Option.some.inj h; subst this
      rcases hv _ hm with h1 | ⟨c', h1, h2⟩
      · dsimp only at h1; omega
      · have h3 := hre.clamp s lines (c' := c') (by rw [h1, hcc])
        obtain rfl := RepO.same s lines h3 h2 ho (by intro h; cases h)
        exact ⟨⟨[], by simp, .nil⟩, fun _ v hv => .inl hv⟩
    split at h
    · cases h
    obtain ⟨s2, h1, h2⟩ := Option.bind_eq_some_iff.1 h
    clear h
    have hst' := (Option.some.inj h2).symm
    clear h2
    have fold : ∀ (l : List Parse) (st1 s2 : List Sit × List Parse) (o' : Out), (∀ q, q ∈ l → POk N s.length i q) → l.foldlM (fun st q => if q.1 = i ∧ p.lo ≤ (cc : Int) then some st else visit p (withinOf x) (parses s lines x) f (cc + 1, q.1, q.2) st) st1 = some s2 →
        (∀ v, v ∈ st1.1 → (v.1 < cc ∨ v.1 = cc ∧ v.2.1 ≤ i) ∨ Fld s lines p x k K v) → Fst (RepO s lines p x k K (cc + 1)) (l.filter fun a => !decide (a.1 = i ∧ p.lo ≤ (cc : Int))) o' →
        (∃ add, s2.2 = st1.2 ++ add ∧ Fst (NextO s lines K) (at_ k add) o') ∧ (o' = .fail → ∀ v, v ∈ s2.1 → v ∈ st1.1 ∨ Fld s lines p x k K v) := by
      intro l
      induction l with
      | nil =>
        intro st1 s2 o' _ h _ hf
        have := Option.some.inj h; subst this
        cases hf
        exact ⟨⟨[], by simp, .nil⟩, fun _ v hv => .inl hv⟩
      | cons a l ih =>
        intro st1 s2 o' hl h hv1 hf
        rw [List.foldlM_cons] at h
        obtain ⟨u, h3, h4⟩ := Option.bind_eq_some_iff.1 h
        have ha := hl a (by simp)
        have hl' : ∀ q, q ∈ l → POk N s.length i q := fun q hq => hl q (by simp [hq])
        by_cases hs : a.1 = i ∧ p.lo ≤ (cc : Int)
        · rw [if_pos hs] at h3
          have := Option.some.inj h3; subst this
          rw [List.filter_cons_of_neg (by simp [hs])] at hf
          exact ih _ _ _ hl' h4 hv1 hf
        · rw [if_neg hs] at h3
          rw [List.filter_cons_of_pos (by rw [Bool.not_eq_true', decide_eq_false_iff_not]; exact hs)] at hf
          have hkid : ∀ v, v ∈ st1.1 → (v.1 < clampC p (cc + 1) ∨ v.1 = clampC p (cc + 1) ∧ v.2.1 < a.1) ∨ Fld s lines p x k K v := fun v hv => by
            refine (hv1 v hv).imp (fun h => ?_) id
            have h5 := ha.1
            unfold clampC at hcc ⊢
            split at hcc <;> split <;> omega
          cases hf with
          | hit hf =>
            obtain ⟨⟨a1, e1, f1⟩, -⟩ := visit_fst H hx hr hk f (cc + 1) a.1 a.2 st1 u _ h3 ha.2.2 ha.2.1 hkid hf (by intro h; cases h)
            obtain ⟨a2, e2⟩ := fold_app h4
            exact ⟨⟨a1 ++ a2, by rw [e2, e1, List.append_assoc], by rw [at_append]; exact f1.found _⟩, fun h => by cases h⟩
          | miss hf hfl =>
            obtain ⟨⟨a1, e1, f1⟩, g1⟩ := visit_fst H hx hr hk f (cc + 1) a.1 a.2 st1 u _ h3 ha.2.2 ha.2.1 hkid hf (by intro h; cases h)
            have g1 := g1 rfl
            obtain ⟨⟨a2, e2, f2⟩, g2⟩ := ih u s2 o' hl' h4 (fun v hv => (g1 v hv).elim (hv1 v) .inr) hfl
            exact ⟨⟨a1 ++ a2, by rw [e2, e1, List.append_assoc], by rw [at_append]; exact f1.after f2⟩, fun h v hv => (g2 h v hv).elim (g1 v) .inr⟩
    have hself : o = .fail → Fld s lines p x k K (cc, i, sp) := fun h => ⟨cc, hcc, by subst h; exact hre⟩
    have hmem : ∀ v, v ∈ st.1 ++ [(cc, i, sp)] → (v.1 < cc ∨ v.1 = cc ∧ v.2.1 ≤ i) ∨ Fld s lines p x k K v := fun v hm => by
      rcases List.mem_append.1 hm with hm | hm
      · exact (hv v hm).imp (fun h => by omega) id
      · have := List.mem_singleton.1 hm; subst this
        exact .inl (.inr ⟨rfl, Nat.le_refl _⟩)
    have hrp := rep_fst s lines H hk hsp hre ho
    have hend : ∀ add : List Parse, EndO s lines p k K cc (i, sp) o → Fst (NextO s lines K) (at_ k add) .fail → Fst (NextO s lines K) (at_ k (if p.lo ≤ (cc : Int) then add ++ [(i, sp)] else add)) o := by
      intro add he hf
      rcases he with ⟨⟨e1, e2⟩, e3⟩ | ⟨e1, rfl⟩
      · rw [if_pos e2, at_append]
        refine hf.after ?_
        unfold at_
        rw [List.filter_cons_of_pos (by simpa using e1)]
        cases o with
        | found y => exact .hit e3
        | fail => exact .miss e3 .nil
        | over => exact absurd rfl ho
      · split
        · rename_i e2
          rw [at_append]
          refine hf.after ?_
          rw [at_none (by intro q hq; have := List.mem_singleton.1 hq; subst this; exact fun h => e1 ⟨h, e2⟩)]
          exact .nil
        · exact hf
    have hout : ∀ add : List Parse, st.2 ++ (if p.lo ≤ (cc : Int) then add ++ [(i, sp)] else add) = if p.lo ≤ (cc : Int) then (st.2 ++ add) ++ [(i, sp)] else st.2 ++ add := fun add => by
      split
      · rw [List.append_assoc]
      · rfl
    subst hst'
    dsimp only
    split at h1
    · rename_i hmay
      obtain ⟨l, h3, h4⟩ := Option.bind_eq_some_iff.1 h1
      have hl := parses_ok s lines N x i _ l hx hi (hsp.unset _) h3
      have hmay' : mayRep p cc := by unfold mayRep; omega
      rcases hrp.1 hmay' l h3 (fun q hq => (hl q hq).1) with ⟨y, rfl, h5⟩ | ⟨h5, h6⟩
      · obtain ⟨⟨a1, e1, f1⟩, -⟩ := fold l _ s2 _ hl h4 hmem h5
        refine ⟨⟨if p.lo ≤ (cc : Int) then a1 ++ [(i, sp)] else a1, by rw [hout, e1], ?_⟩, fun h => by cases h⟩
        split
        · rw [at_append]; exact f1.found _
        · exact f1
      · obtain ⟨⟨a1, e1, f1⟩, g1⟩ := fold l _ s2 _ hl h4 hmem h5
        refine ⟨⟨if p.lo ≤ (cc : Int) then a1 ++ [(i, sp)] else a1, by rw [hout, e1], hend a1 h6 f1⟩, fun hfl v hv => ?_⟩
        rcases g1 rfl v hv with h7 | h7
        · rcases List.mem_append.1 h7 with h7 | h7
          · exact .inl h7
          · have := List.mem_singleton.1 h7; subst this
            exact .inr (hself hfl)
        · exact .inr h7
    · rename_i hmay
      have := Option.some.inj h1; subst this
      have hmay' : ¬ mayRep p cc := by unfold mayRep; omega
      refine ⟨⟨if p.lo ≤ (cc : Int) then [] ++ [(i, sp)] else [], by rw [hout]; simp, hend [] (hrp.2 hmay') .nil⟩, fun hfl v hv => ?_⟩
      rcases List.mem_append.1 hv with h7 | h7
      · exact .inl h7
      · have := List.mem_singleton.1 h7; subst this
        exact .inr (hself hfl)
theorem mapM_flat {α β : Type} {f : α → Option (List β)} : ∀ (l : List α) (m : List (List β)), l.mapM f = some m → m.flatten = (l.flatMap fun a => (f a).getD []) ∧ ∀ a, a ∈ l → ∃ b, f a = some b
  | [], m, h => by simp at h; subst h; simp
  | a :: l, m, h => by
    rw [List.mapM_cons] at h
    cases h1 : f a with
    | none => simp [h1] at h
    | some b0 =>
      cases h2 : l.mapM f with
      | none => simp [h1, h2] at h
      | some m0 =>
        simp [h1, h2] at h
        subst h
        have ih := mapM_flat l m0 h2
        refine ⟨by rw [List.flatten_cons, List.flatMap_cons, ih.1, h1]; rfl, fun b hb => ?_⟩
        rcases List.mem_cons.1 hb with rfl | hb
        · exact ⟨b0, h1⟩
        · exact ih.2 b hb
theorem at_flat {α : Type} (k : Nat) (f : α → List Parse) (l : List α) : at_ k (l.flatMap f) = l.flatMap fun a => at_ k (f a) := by
  unfold at_
  rw [List.filter_flatMap]
theorem upto_flat {α : Type} (k : Nat) (f : α → List Parse) (l : List α) : upto k (l.flatMap f) = l.flatMap fun a => upto k (f a) := by
  unfold upto
  rw [List.filter_flatMap]
theorem flatMap_upto {k : Nat} {g : Parse → List Parse} : ∀ l : List Parse, (∀ q, q ∈ l → k < q.1 → g q = []) → l.flatMap g = (upto k l).flatMap g
  | [], _ => rfl
  | a :: l, h => by
    have ih := flatMap_upto l fun q hq => h q (by simp [hq])
    unfold upto at ih ⊢
    by_cases ha : a.1 ≤ k
    · rw [List.filter_cons_of_pos (by simpa using ha), List.flatMap_cons, List.flatMap_cons, ih]
    · rw [List.filter_cons_of_neg (by simpa using ha), List.flatMap_cons, h a (by simp) (by omega), ih]; rfl
/-- A list of trees: each part's parses in their order. -/
theorem cat_fst {N k i0 : Nat} {K : Kont} (hk : k ≤ s.length) : ∀ (xs : List Re) (l m : List Parse) (o : Out), xs ≠ [] → Re.oks N xs → (∀ x, x ∈ xs → PartF s lines N x) → (∀ q, q ∈ l → POk N s.length i0 q) → catP s lines xs l = some m → Fst (CatO s lines xs k K) (upto k l) o → Fst (NextO s lines K) (at_ k m) o
  | [], l, m, o, h, _, _, _, _, _ => absurd rfl h
  | [x], l, m, o, _, hok, H, hl, h, hf => by
    rw [catP] at h
    obtain ⟨ms, h1, h2⟩ := Option.bind_eq_some_iff.1 h
    split at h2
    · cases h2
    rw [catP] at h2
    have := Option.some.inj h2; subst this
    rw [Re.oks] at hok
    obtain ⟨e1, e2⟩ := mapM_flat l ms h1
    rw [e1]
    unfold at_
    rw [← nub_filter]
    refine Fst.nub (NextO.fn s lines K) ?_
    show Fst _ (at_ k _) o
    rw [at_flat, flatMap_upto (k := k) l]
    · refine hf.flat fun a o' ha ho hc => ?_
      have ha2 := List.mem_filter.1 ha
      obtain ⟨b, hb⟩ := e2 a ha2.1
      rw [hb]
      obtain ⟨n, m', hc⟩ := hc
      cases hc with
      | catOne hn => exact H x (by simp) a.1 k a.2 b K _ _ _ (by simpa using ha2.2) hk (hl a ha2.1).2.2 hb hn ho
    · intro q hq hkq
      obtain ⟨b, hb⟩ := e2 q hq
      rw [hb]
      refine at_none fun z hz => ?_
      have := (parses_ok s lines N x q.1 q.2 b hok.1 (hl q hq).2.1 (hl q hq).2.2 hb z hz).1
      omega
  | x :: y :: ys, l, m, o, _, hok, H, hl, h, hf => by
    rw [catP] at h
    obtain ⟨ms, h1, h2⟩ := Option.bind_eq_some_iff.1 h
    split at h2
    · cases h2
    rw [Re.oks] at hok
    obtain ⟨e1, e2⟩ := mapM_flat l ms h1
    have hms : ∀ q, q ∈ nub ms.flatten → POk N s.length i0 q := fun q hq => by
      obtain ⟨b, hb, hqb⟩ := List.mem_flatten.1 (nub_mem.1 hq)
      refine mapM_inv (P := fun b : List Parse => ∀ q, q ∈ b → POk N s.length i0 q) l ms h1 (fun a b ha hf q hq => ?_) b hb q hqb
      have h3 := hl a ha
      have := parses_ok s lines N x a.1 a.2 b hok.1 h3.2.1 h3.2.2 hf q hq
      exact ⟨Nat.le_trans h3.1 this.1, this.2⟩
    refine cat_fst hk (y :: ys) (nub ms.flatten) m o (by simp) hok.2 (fun z hz => H z (by simp only [List.mem_cons] at hz ⊢; exact .inr hz)) hms h2 ?_
    unfold upto
    rw [← nub_filter]
    refine Fst.nub (CatO.fn s lines (y :: ys) k K) ?_
    show Fst _ (upto k _) o
    rw [e1, upto_flat, flatMap_upto (k := k) l]
    · refine hf.flat fun a o' ha ho hc => ?_
      have ha2 := List.mem_filter.1 ha
      have hak : a.1 ≤ k := by simpa using ha2.2
      obtain ⟨b, hb⟩ := e2 a ha2.1
      rw [hb]
      obtain ⟨n, m', hc⟩ := hc
      cases hc with
      | catMore hn =>
        have h3 := catj_fst s lines (H x (by simp)) hk (hl a ha2.1).2.2 hb (fun z hz => (parses_ok s lines N x a.1 a.2 b hok.1 (hl a ha2.1).2.1 (hl a ha2.1).2.2 hb z hz).1) _ _ _ _ (by omega) hn ho
        have e : b.filter (fun q => decide (q.1 < a.1 + (k + 1 - a.1))) = upto k b := List.filter_congr fun z _ => by simp; omega
        rw [e] at h3
        exact h3
    · intro q hq hkq
      obtain ⟨b, hb⟩ := e2 q hq
      rw [hb]
      show upto k b = []
      unfold upto
      rw [List.filter_eq_nil_iff]
      intro z hz
      have := (parses_ok s lines N x q.1 q.2 b hok.1 (hl q hq).2.1 (hl q hq).2.2 hb z hz).1
      simp; omega
theorem alt_fst {N i k : Nat} {sp : Spans} {K : Kont} (hik : i ≤ k) (hk : k ≤ s.length) (hsp : SpOk N s.length sp) : ∀ (xs : List Re) (l : List Parse) (n : Nat) (o : Out) (m : Nat), (∀ x, x ∈ xs → PartF s lines N x) → altP s lines xs i sp = some l → Ev s lines (.alt xs i k) sp K n o m → o ≠ .over → Fst (NextO s lines K) (at_ k l) o
  | [], l, n, o, m, _, h, he, ho => by
    rw [altP] at h
    have := Option.some.inj h; subst this
    cases he
    exact .nil
  | x :: xs, l, n, o, m, H, h, he, ho => by
    rw [altP] at h
    simp only [Option.bind_eq_some_iff] at h
    obtain ⟨a, h1, b, h2, h3⟩ := h
    have := Option.some.inj h3; subst this
    rw [at_append]
    refine Fst.join ?_
    cases he with
    | altHit hn hf =>
      have h4 := H x (by simp) i k sp a K _ _ _ hik hk hsp h1 hn ho
      cases o with
      | found y => exact .inl ⟨y, rfl, h4⟩
      | fail => exact absurd rfl hf
      | over => exact absurd rfl ho
    | altMiss hn hr => exact .inr ⟨H x (by simp) i k sp a K _ _ _ hik hk hsp h1 hn (by intro h; cases h), alt_fst hik hk hsp xs b _ _ _ (fun z hz => H z (by simp [hz])) h2 hr ho⟩
end
end Go.Proofs.Ythnpbopnpdlmnaa

/- The first parse that does: all trees; searches at an offset, and from an offset on. -/
namespace Go.Proofs.Ythnpbopnpdlmnaa
open Go.RowKit

section
variable (s : List UInt8) (lines : Bool)
theorem at_one (k i : Nat) (sp : Spans) (b : Bool) : at_ k (if b = true then [(i, sp)] else []) = if (decide (k = i) && b) = true then [(k, sp)] else [] := by
  unfold at_
  by_cases h : k = i
  · subst h
    cases b <;> simp
  · cases b
    · simp
    · simp [h]; omega
theorem leaf_at {N i k : Nat} {p : Pay} {xs : List Re} {sp : Spans} {l : List Parse} (hp : ¬ partOp p) (hik : i ≤ k) (hk : k ≤ s.length) (hsp : SpOk N s.length sp) (h : parses s lines (.mk p xs) i sp = some l) :
    at_ k l = if plainOf s lines p i k sp = true then [(k, sp)] else [] := by
  unfold partOp at hp
  rw [parses] at h
  unfold plainOf
  by_cases h1 : p.op = 1
  · rw [if_pos h1] at h ⊢
    have := Option.some.inj h; subst this
    have := at_one k i sp true
    rw [if_pos rfl, Bool.and_true] at this
    exact this
  rw [if_neg h1] at h ⊢
  by_cases h2 : p.op = 2
  · rw [if_pos h2] at h ⊢
    have := Option.some.inj h; subst this
    rw [at_one]
    have e : (decide (k = i + 1) && (decide (i < s.length) && p.set.has (byteAt s i).toNat)) = (decide (k = i + 1) && p.set.has (byteAt s i).toNat) := by
      by_cases hk1 : k = i + 1
      · have : i < s.length := by omega
        rw [decide_eq_true this, Bool.true_and]
      · rw [decide_eq_false hk1]
        simp
    exact congrArg (fun b => if b = true then [(k, sp)] else ([] : List Parse)) e
  rw [if_neg h2] at h ⊢
  rw [if_neg (by omega), if_neg (by omega), if_neg (by omega), if_neg (by omega)] at h
  by_cases h7 : p.op = 7
  · rw [if_pos h7] at h ⊢
    have := Option.some.inj h; subst this
    rw [at_one]
  rw [if_neg h7] at h ⊢
  by_cases h8 : p.op = 8
  · rw [if_pos h8] at h ⊢
    have := Option.some.inj h; subst this
    rw [at_one]
  rw [if_neg h8] at h ⊢
  have := Option.some.inj h; subst this
  rw [at_one]
  have hg : sp.getD (p.gr.toNat - 1) (-1, -1) = (-1, -1) ∨ 0 ≤ (sp.getD (p.gr.toNat - 1) (-1, -1)).1 ∧ (sp.getD (p.gr.toNat - 1) (-1, -1)).1 ≤ (sp.getD (p.gr.toNat - 1) (-1, -1)).2 := by
    rw [List.getD_eq_getElem?_getD]
    cases hx : sp[p.gr.toNat - 1]? with
    | none => exact .inl rfl
    | some x => rcases hsp.2 x (List.mem_of_getElem? hx) with h | h
                · exact .inl h
                · exact .inr ⟨h.1, h.2.1⟩
  generalize sp.getD (p.gr.toNat - 1) (-1, -1) = g at *
  have e : (decide (k = i + (g.2 - g.1).toNat) && (decide (0 ≤ g.1) && decide (i + (g.2 - g.1).toNat ≤ s.length) && decide ((s.drop i).take (g.2 - g.1).toNat = (s.drop g.1.toNat).take (g.2 - g.1).toNat))) = (decide (0 ≤ g.1) && decide ((k : Int) - i = g.2 - g.1) && decide ((s.drop i).take (k - i) = (s.drop g.1.toNat).take (k - i))) := by
    rcases hg with rfl | ⟨g1, g2⟩
    · simp
    · by_cases hk1 : k = i + (g.2 - g.1).toNat
      · have e1 : (k : Int) - i = g.2 - g.1 := by omega
        have e2 : k - i = (g.2 - g.1).toNat := by omega
        rw [e2, decide_eq_true hk1, decide_eq_true g1, decide_eq_true e1, decide_eq_true (show i + (g.2 - g.1).toNat ≤ s.length by omega)]
        simp
      · have e1 : ¬ ((k : Int) - i = g.2 - g.1) := by omega
        rw [decide_eq_false hk1, decide_eq_false e1]
        simp
  exact congrArg (fun b => if b = true then [(k, sp)] else ([] : List Parse)) e
mutual
theorem try_fst (N : Nat) : ∀ t : Re, t.ok N → t.reps → PartF s lines N t
  | .mk p xs, hok, hre => by
    intro i k sp l K n o m hik hk hsp hl he ho
    rw [Re.ok] at hok
    rw [Re.reps] at hre
    obtain ⟨⟨hop, -⟩, h34, h56, h69, hoks⟩ := hok
    have IH := parts_fst N xs hoks hre.2
    cases he with
    | tryOver => exact absurd rfl ho
    | leafFail h hp =>
      rw [leaf_at s lines h hik hk hsp hl, if_neg (by rw [hp]; decide)]
      exact .nil
    | leaf h hp hn =>
      rw [leaf_at s lines h hik hk hsp hl, if_pos hp]
      have : NextO s lines K (k, sp) o := ⟨_, _, hn⟩
      cases o with
      | found y => exact .hit this
      | fail => exact .miss this .nil
      | over => exact absurd rfl ho
    | tryCat h hn =>
      rw [parses, if_neg (by omega), if_neg (by omega), if_pos h] at hl
      obtain ⟨a, h1, h2⟩ := Option.bind_eq_some_iff.1 hl
      have h0 : ∀ q, q ∈ [(i, sp)] → POk N s.length i q := fun q hq => by have := List.mem_singleton.1 hq; subst this; exact ⟨Nat.le_refl _, by omega, hsp⟩
      rw [at_fin h2 fun q hq => (catP_ok s lines N xs _ a i hoks h0 h1 q hq).2.1]
      refine Fst.nub (NextO.fn s lines K) (cat_fst s lines hk xs [(i, sp)] a o (h34 (.inl h)) hoks IH h0 h1 ?_)
      unfold upto
      rw [List.filter_cons_of_pos (by simpa using hik)]
      have : CatO s lines xs k K (i, sp) o := ⟨_, _, hn⟩
      cases o with
      | found y => exact .hit this
      | fail => exact .miss this .nil
      | over => exact absurd rfl ho
    | tryAlt h hn =>
      rw [parses, if_neg (by omega), if_neg (by omega), if_neg (by omega), if_pos h] at hl
      obtain ⟨a, h1, h2⟩ := Option.bind_eq_some_iff.1 hl
      rw [at_fin h2 fun q hq => (altP_ok s lines N xs i sp a hoks (by omega) hsp h1 q hq).2.1]
      exact Fst.nub (NextO.fn s lines K) (alt_fst s lines hik hk hsp xs a _ _ _ IH h1 hn ho)
    | @tryRep p x _ _ _ _ _ _ _ h hn =>
      rw [parses, if_neg (by omega), if_neg (by omega), if_neg (by omega), if_neg (by omega), if_pos h] at hl
      obtain ⟨st, h1, h2⟩ := Option.bind_eq_some_iff.1 hl
      have e1 : withinAll [x] = withinOf x := by rw [withinAll, withinAll, List.append_nil]
      have e2 : firstP s lines [x] = parses s lines x := by funext a b; rw [firstP]
      rw [e1, e2] at h1
      rw [Re.oks] at hoks
      have hin : ∀ q, q ∈ st.2 → q.1 ≤ s.length := fun q hq =>
        (visit_inv (G := POk N s.length i) (fun j sp' l' hj hl q' hq' => by
          have := parses_ok s lines N x j _ l' hoks.1 hj.2.1 (hj.2.2.unset _) hl q' hq'
          exact ⟨Nat.le_trans hj.1 this.1, this.2⟩) _ _ _ st h1 ⟨Nat.le_refl _, Nat.le_trans hik hk, hsp⟩ (fun q hq => by cases hq) q hq).2.1
      rw [at_fin h2 hin]
      refine Fst.nub (NextO.fn s lines K) ?_
      obtain ⟨⟨a, e3, f⟩, -⟩ := visit_fst s lines (IH x (by simp)) hoks.1 (hre.1 h).2.1 hk _ 0 i sp _ st o h1 hsp (by omega) (fun v hv => by cases hv) ⟨_, _, hn⟩ ho
      rw [e3]
      exact f
    | @tryGroup p x _ _ _ _ _ _ _ h hn =>
      rw [parses, if_neg (by omega), if_neg (by omega), if_neg (by omega), if_neg (by omega), if_neg (by omega), if_pos h] at hl
      obtain ⟨a, h1, h2⟩ := Option.bind_eq_some_iff.1 hl
      rw [firstP] at h1
      rw [Re.oks] at hoks
      have hin : ∀ q, q ∈ (a.map fun q => (q.1, q.2.set (p.gr.toNat - 1) ((i : Int), (q.1 : Int)))) → q.1 ≤ s.length := fun q hq => by
        obtain ⟨q0, h3, rfl⟩ := List.mem_map.1 hq
        exact (parses_ok s lines N x i sp a hoks.1 (by omega) hsp h1 q0 h3).2.1
      rw [at_fin h2 hin]
      refine Fst.nub (NextO.fn s lines K) ?_
      have hx := IH x (by simp) i k sp a _ _ _ _ hik hk hsp h1 hn ho
      have e3 : at_ k (a.map fun q => (q.1, q.2.set (p.gr.toNat - 1) ((i : Int), (q.1 : Int)))) = (at_ k a).flatMap fun q => [(q.1, q.2.set (p.gr.toNat - 1) ((i : Int), (q.1 : Int)))] := by
        unfold at_
        rw [List.filter_map, ← List.map_eq_flatMap]
        rfl
      rw [e3]
      refine hx.flat fun q o' hq ho' hn' => ?_
      obtain ⟨n', m', hn'⟩ := hn'
      cases hn' with
      | nextMark hn' =>
        have : NextO s lines K (q.1, q.2.set (p.gr.toNat - 1) ((i : Int), (q.1 : Int))) o' := ⟨_, _, by rw [(at_mem hq).2]; exact hn'⟩
        cases o' with
        | found y => exact .hit this
        | fail => exact .miss this .nil
        | over => exact absurd rfl ho'
theorem parts_fst (N : Nat) : ∀ xs : List Re, Re.oks N xs → Re.repsAll xs → ∀ x, x ∈ xs → PartF s lines N x
  | [], _, _, x, hx => by cases hx
  | y :: ys, hok, hre, x, hx => by
    rw [Re.oks] at hok
    rw [Re.repsAll] at hre
    rcases List.mem_cons.1 hx with hx | hx
    · rw [hx]
      exact try_fst N y hok.1 hre.1
    · exact parts_fst N ys hok.2 hre.2 x hx
end
theorem fst_done {L : List Parse} {o : Out} (h : Fst (NextO s lines .done) L o) : (L = [] ∧ o = .fail) ∨ ∃ q L', L = q :: L' ∧ o = .found q.2 := by
  have hd : ∀ q o, NextO s lines .done q o → o = .found q.2 := by
    rintro q o ⟨n, m, h⟩
    cases h
    rfl
  cases h with
  | nil => exact .inl ⟨rfl, rfl⟩
  | hit h => exact .inr ⟨_, _, rfl, hd _ _ h⟩
  | miss h _ => cases hd _ _ h
/-- A search at an offset finds the first parse. -/
theorem evat_fst {t : Re} {N i : Nat} {l : List Parse} (H : PartF s lines N t) (hl : parses s lines t i (unsetAll N) = some l) (hge : ∀ q, q ∈ l → i ≤ q.1) :
    ∀ (c n : Nat) (o : Out) (m : Nat), i + c ≤ s.length + 1 → EvAt s lines t N i c n o m → o ≠ .over → Fst (fun q o => o = .found (((i : Int), (q.1 : Int)) :: q.2)) (l.filter fun q => decide (q.1 < i + c)) o
  | 0, n, o, m, hc, h, ho => by
    cases h
    have : l.filter (fun q => decide (q.1 < i + 0)) = [] := by
      rw [List.filter_eq_nil_iff]
      intro q hq
      have := hge q hq
      simp; omega
    rw [this]
    exact .nil
  | c + 1, n, o, m, hc, h, ho => by
    rw [show i + (c + 1) = i + c + 1 by omega, desc_split l (i + c) (parses_neat hl).1]
    refine Fst.join ?_
    cases h with
    | over h => exact absurd rfl ho
    | hit h =>
      rcases fst_done s lines (H i (i + c) _ l _ _ _ _ (by omega) (by omega) (unsetAll_ok N s.length) hl h (by intro h; cases h)) with ⟨h1, h2⟩ | ⟨q, L', h1, h2⟩
      · cases h2
      · injection h2 with h2
        rw [h1]
        refine .inl ⟨_, rfl, .hit ?_⟩
        rw [h2, (at_mem (l := l) (k := i + c) (q := q) (by rw [h1]; simp)).2]
    | miss h hr =>
      rcases fst_done s lines (H i (i + c) _ l _ _ _ _ (by omega) (by omega) (unsetAll_ok N s.length) hl h (by intro h; cases h)) with ⟨h1, h2⟩ | ⟨q, L', h1, h2⟩
      · rw [h1]
        exact .inr ⟨.nil, evat_fst H hl hge c _ _ _ (by omega) hr ho⟩
      · cases h2
end
end Go.Proofs.Ythnpbopnpdlmnaa

/- Reback's laws, plainly; RebackBudget's walk. -/
namespace Go.Proofs.Ythnpbopnpdlmnaa
open Go.RowKit
attribute [local go_sem] gives givesUpon

theorem Ev.len {s : List UInt8} {lines : Bool} {J sp K n o m} (h : Ev s lines J sp K n o m) : ∀ l, o = .found l → l.length = sp.length := by
  induction h with
  | tryOver => intro l h; cases h
  | leafFail => intro l h; cases h
  | catjNone => intro l h; cases h
  | altNone => intro l h; cases h
  | repjFail => intro l h; cases h
  | nextDone => intro l h; injection h with h; rw [h]
  | leaf _ _ _ ih => exact ih
  | tryCat _ _ ih => exact ih
  | tryAlt _ _ ih => exact ih
  | tryRep _ _ ih => exact ih
  | tryGroup _ _ ih => exact ih
  | catOne _ ih => exact ih
  | catMore _ ih => exact ih
  | catjHit _ _ ih => exact ih
  | catjMiss _ _ _ ih => exact ih
  | altHit _ _ ih => exact ih
  | altMiss _ _ _ ih => exact ih
  | repMay _ _ ih => exact ih
  | repNot _ _ ih => exact ih
  | repjHit _ _ ih => intro l h; rw [ih l h, unset_length]
  | repjMiss _ _ _ ih => exact ih
  | repjEnd _ _ ih => exact ih
  | nextMark _ ih => intro l h; rw [ih l h, List.length_set]
  | nextCat _ ih => exact ih
  | nextRep _ ih => exact ih
theorem EvAt.len {s : List UInt8} {lines : Bool} {e : Re} {N a c n o m} (h : EvAt s lines e N a c n o m) : ∀ l, o = .found l → l.length = N + 1 := by
  induction h with
  | none => intro l h; cases h
  | hit h => intro l e; injection e with e; subst e; have := Ev.len h _ rfl; simp [unsetAll] at this; simp [this]
  | over => intro l h; cases h
  | miss _ _ ih => exact ih
theorem EvFind.len {s : List UInt8} {lines : Bool} {e : Re} {N a c n o m} (h : EvFind s lines e N a c n o m) : ∀ l, o = .found l → l.length = N + 1 := by
  induction h with
  | none => intro l h; cases h
  | hit h _ => exact EvAt.len h
  | miss _ _ ih => exact ih
/-- The spans of an outcome. -/
def Out.lst : Out → Spans
  | .found l => l
  | _ => []
theorem Api.len {t : Re} {s : ByteArray} {at_ : Int} {d : Nat → Nat} {lines : Bool} {B : Nat} {o : Out} {k x : Int} (h : Api t s at_ d lines B o k x) : o.lst.length ≤ 1000 := by
  rcases h with ⟨_, rfl, _⟩ | ⟨h0, m, hm, h1, _⟩
  · simp [Out.lst]
  · have hg := (Re.ok_err (chk_zero h0).1).2.1
    cases o with
    | found l => have := EvFind.len h1 l rfl; show l.length ≤ 1000; omega
    | fail => simp [Out.lst]
    | over => simp [Out.lst]
theorem Api.good {t : Re} {s : ByteArray} {at_ : Int} {d : Nat → Nat} {lines : Bool} {B : Nat} {o : Out} {k : Int} (h : Api t s at_ d lines B o k 0) : chk t s at_ = 0 ∧ o ≠ .over ∧ ∃ m : Nat, m ≤ B ∧ EvFind s.data.toList lines t t.groups at_.toNat (d at_.toNat) B o m ∧ k = ((B - m : Nat) : Int) := by
  rcases h with ⟨h0, _, _, h1⟩ | ⟨h0, m, hm, h1, rfl, hx⟩
  · exact absurd h1.symm h0
  · exact ⟨h0, (fun e => by subst e; cases hx), m, hm, h1, rfl⟩
theorem Ev.try_pos {s : List UInt8} {lines : Bool} {e : Re} {i k : Nat} {sp : Spans} {K : Kont} {n : Nat} {o : Out} {m : Nat} (h : Ev s lines (.try e i k) sp K n o m) (ho : o ≠ .over) : m < n := by
  cases h with
  | tryOver => exact absurd rfl ho
  | leafFail => omega
  | leaf _ _ h => have := (Ev.left s lines h).1; omega
  | tryCat _ h => have := (Ev.left s lines h).1; omega
  | tryAlt _ h => have := (Ev.left s lines h).1; omega
  | tryRep _ h => have := (Ev.left s lines h).1; omega
  | tryGroup _ h => have := (Ev.left s lines h).1; omega
theorem EvAt.pos {s : List UInt8} {lines : Bool} {e : Re} {N a c n : Nat} {o : Out} {m : Nat} (h : EvAt s lines e N a c n o m) (hc : 0 < c) (ho : o ≠ .over) : m < n := by
  cases h with
  | none => omega
  | hit h => exact Ev.try_pos h (by intro h; cases h)
  | over h => exact absurd rfl ho
  | miss h hr => have := Ev.try_pos h (by intro h; cases h); have := (EvAt.left s lines e N hr).1; omega
theorem EvFind.pos {s : List UInt8} {lines : Bool} {e : Re} {N i d n : Nat} {o : Out} {m : Nat} (h : EvFind s lines e N i d n o m) (hd : 0 < d) (hi : i ≤ s.length) (ho : o ≠ .over) : m < n := by
  cases h with
  | none => omega
  | hit h _ => exact EvAt.pos h (by omega) ho
  | miss h hr => have := EvAt.pos h (by omega) (by intro h; cases h); have := (EvFind.left s lines e N hr).1; omega
theorem Api.pos {t : Re} {s : ByteArray} {at_ : Int} {d : Nat → Nat} {lines : Bool} {B : Nat} {o : Out} {k : Int} (h : Api t s at_ d lines B o k 0) (hd : ∀ f, f ≤ s.size → 0 < d f) : 0 < k := by
  obtain ⟨h0, ho, m, hm, h1, rfl⟩ := h.good
  have hc := chk_zero h0
  have hsl : s.data.toList.length = s.size := by rw [Array.length_toList]; rfl
  have := EvFind.pos h1 (hd _ (by omega)) (by omega) ho
  omega
theorem SpB.lst {w w' : World} {v : Value} {o : Out} (h1 : ∀ l, o = .found l → SpB (w.heap.size ≤ ·) w' v l) (h2 : o.isFound = false → v = .slice none 0 0) : SpB (w.heap.size ≤ ·) w' v o.lst := by
  cases o with
  | found l => exact h1 l rfl
  | fail => exact .inl ⟨rfl, h2 rfl⟩
  | over => exact .inl ⟨rfl, h2 rfl⟩

/-- A law's frame: its two arguments in blocks of their own. -/
def LB (w : World) (t : Re) (BXL CXL : List Value) (x : World) : Prop := Row x w.heap.size BXL 28 ∧ Row x (w.heap.size + 1) CXL 50 ∧ Below w.heap.size w x ∧ t.In x BXL
theorem LB.later {w : World} {t : Re} {BXL CXL : List Value} {x y : World} (h : LB w t BXL CXL x) (hb : Below x.heap.size x y) : LB w t BXL CXL y :=
  ⟨h.1.below hb h.1.lt, h.2.1.below hb h.2.1.lt, h.2.2.1.trans (hb.mono h.2.2.1.size), h.2.2.2.below hb⟩
end Go.Proofs.Ythnpbopnpdlmnaa
