/- A region that draws its order, shown by one invariant: each operation yields a value of which a fact holds that lasts (whatever the other operations do), from the facts of the operations for which it waits. Nothing here speaks of the program. -/
import Derived.WalkKit
import Derived.RegionTactic
namespace Go.Proofs.YthnpbopnpdlmnaaDoor
open Go.RowKit

section
variable {P : Program} {ops : Array Oper} {Q : Exit → Act → World → Prop}

def givesUpon (P : Program) (K : Value → World → Prop) : Result Next → Prop
  | .ok (.value v) w' => K v w'
  | .ok .skip w' => K undef w'
  | .ok (.enter f args) w' => Calls P f args w' fun e w'' => ∃ v, e = .returned v ∧ K v w''
  | _ => False
def gives (P : Program) (o : Oper) (a : Act) (w : World) (K : Value → World → Prop) : Prop := givesUpon P K ((execOp a.eval o).run P w)

theorem gives.wp {o : Oper} {a : Act} {w : World} {K : Value → World → Prop} {K' : Act → World → Prop} (h : gives P o a w K) (hk : ∀ v w', K v w' → K' (a.put o.dst v) w') : o.wp P a w K' Q := by
  unfold gives at h
  unfold Oper.wp
  generalize (execOp a.eval o).run P w = r at *
  cases r with
  | ok n w' =>
    cases n <;> simp only [givesUpon] at h <;> simp only [Oper.upon]
    case value u => exact hk _ _ h
    case skip => exact hk _ _ h
    case enter f args =>
      exact h.mono fun e w'' ⟨v, he, hK⟩ => by subst he; exact hk _ _ hK
  | halt x w' => simp only [givesUpon] at h

def waits (ops : Array Oper) (j i : Nat) : Bool :=
  match ops[j]? with
  | some o => o.after.toList.any fun e => Region.binds .any e && e.on == i
  | none => false
theorem waits_spec {j i : Nat} (h : waits ops j i = true) : ∃ oj, ops[j]? = some oj ∧ ∃ e ∈ oj.after, Region.binds .any e = true ∧ e.on = i := by
  unfold waits at h
  split at h
  · rename_i oj hj
    obtain ⟨e, he, hb⟩ := List.any_eq_true.1 h
    simp only [Bool.and_eq_true, beq_iff_eq] at hb
    exact ⟨oj, hj, e, Array.mem_toList_iff.1 he, hb.1, hb.2⟩
  · cases h

def dstOf (ops : Array Oper) (i : Nat) : Option Tmp := (ops[i]?).bind (·.dst)

def planB (ops : Array Oper) (n m : Nat) : Bool :=
  decide (n ≤ ops.size) &&
  ((List.range n).all fun i => (List.range n).all fun j => decide (i = j) || (dstOf ops i).isNone || decide (dstOf ops i ≠ dstOf ops j)) &&
  ((List.range n).all fun i => match dstOf ops i with | some d => decide (d < m) | none => true) &&
  (decide (n = ops.size) || ((List.range n).all fun i => (List.range (n + 1)).any fun j => decide (i < j) && waits ops j i)) &&
  ((List.range ops.size).all fun t => decide (t ≤ n) || waits ops t (t - 1)) &&
  ((List.range ops.size).all fun t => match ops[t]? with | some o => o.after.all fun e => !Region.binds .any e || decide (e.on < t) | none => true)

def fill (ops : Array Oper) (vs : Nat → Value) : Nat → Act → Act
  | 0, a => a
  | n + 1, a => (fill ops vs n a).put (dstOf ops n) (vs n)

structure Inv (ops : Array Oper) (n : Nat) (R : World → World → Prop) (w0 : World) (a0 : Act) (φ : Nat → Value → World → Prop) (listed : Array Bool) (a : Act) (w : World) : Prop where
  size : listed.size = ops.size
  closed : ∀ j oj, ops[j]? = some oj → listed.getD j false = true → ∀ e ∈ oj.after, Region.binds .any e = true → listed.getD e.on false = true
  tail : ∀ t, n ≤ t → t < ops.size → listed.getD t true = false
  above : R w0 w
  facts : ∃ vs, a = fill ops vs n a0 ∧ ∀ j, j < n → listed.getD j false = true → φ j (vs j) w

theorem bothD {listed : Array Bool} {i : Nat} (h : listed.getD i true = false) : listed.getD i false = false := by
  rcases Nat.lt_or_ge i listed.size with h' | h'
  · simp [h'] at h ⊢; exact h
  · simp [Array.getElem?_eq_none h'] at h
theorem inD {listed : Array Bool} {i : Nat} (hi : i < listed.size) (h : listed.getD i false = false) : listed.getD i true = false := by
  simp [hi] at h ⊢; exact h
theorem repD (m j : Nat) : (Array.replicate m false).getD j false = false := by
  rcases Nat.lt_or_ge j m with h | h
  · simp [h]
  · simp [h]

theorem size_put (a : Act) (d : Option Tmp) (v : Value) : (a.put d v).tmps.size = a.tmps.size := by
  cases d <;> simp [Act.put]
theorem size_fill (vs : Nat → Value) (a : Act) : ∀ n, (fill ops vs n a).tmps.size = a.tmps.size
  | 0 => rfl
  | n + 1 => by rw [fill, size_put, size_fill vs a n]

theorem fill_set (vs : Nat → Value) (a : Act) (i : Nat) (u : Value) : ∀ n, (∀ j, j < n → j ≠ i → dstOf ops i = none ∨ dstOf ops i ≠ dstOf ops j) → i < n →
    (fill ops vs n a).put (dstOf ops i) u = fill ops (fun j => if j = i then u else vs j) n a
  | 0, _, hi => by omega
  | n + 1, hd, hi => by
    have hlow : ∀ k, k ≤ i → fill ops (fun j => if j = i then u else vs j) k a = fill ops vs k a := by
      intro k
      induction k with
      | zero => intro _; rfl
      | succ k ih =>
        intro hk
        rw [fill, fill, ih (by omega), if_neg (by omega)]
    by_cases hin : i = n
    · subst hin
      rw [fill, fill, hlow i (Nat.le_refl _), if_pos rfl]
      cases dstOf ops i with
      | none => rfl
      | some d => simp [Act.put]
    · have ih := fill_set vs a i u n (fun j hj hne => hd j (by omega) hne) (by omega)
      rw [fill, fill, ← ih, if_neg (by omega)]
      have h := hd n (by omega) (by omega)
      cases h1 : dstOf ops i with
      | none => cases dstOf ops n <;> rfl
      | some d =>
        cases h2 : dstOf ops n with
        | none => rfl
        | some d' =>
          rw [h1, h2] at h
          have hne : d ≠ d' := by rcases h with h | h; cases h; intro e; exact h (by rw [e])
          simp only [Act.put]
          congr 1
          exact Array.setIfInBounds_comm _ _ (Ne.symm hne)

def StepOf (P : Program) (ops : Array Oper) (R : World → World → Prop) (φ : Value → World → Prop) (o : Oper) (a : Act) (w : World) : Prop :=
  if Region.wanted o (yielded ops a.tmps) then gives P o a w (fun v w' => R w w' ∧ φ v w') else φ undef w

theorem not_ready {n m : Nat} {R : World → World → Prop} {w0 : World} {a0 : Act} {φ : Nat → Value → World → Prop} {listed : Array Bool} {a : Act} {w : World} (hB : planB ops n m = true) (hn : n < ops.size)
    (inv : Inv ops n R w0 a0 φ listed a w) : ∀ (d i : Nat), n - i = d → i < n → listed.getD i false = false → ∀ t, n ≤ t → t ∉ Region.ready .any ops listed := by
  simp only [planB, Bool.and_eq_true, Bool.or_eq_true, decide_eq_true_eq] at hB
  obtain ⟨⟨⟨⟨⟨_, _⟩, _⟩, hs⟩, hc⟩, _⟩ := hB
  have hs' := hs.resolve_left (by omega)
  intro d
  induction d using Nat.strongRecOn with
  | _ d ih =>
    intro i hd hi hun t ht hr
    obtain ⟨_, ot, hot, hall⟩ := mem_ready.1 hr
    have htlt : t < ops.size := (Array.getElem?_eq_some_iff.1 hot).1
    by_cases htn : t = n
    · subst htn
      obtain ⟨j, hj, hj2⟩ := List.any_eq_true.1 (List.all_eq_true.1 hs' i (List.mem_range.2 hi))
      simp only [Bool.and_eq_true, decide_eq_true_eq] at hj2
      obtain ⟨oj, hoj, e, he, hb, hon⟩ := waits_spec hj2.2
      have hjle : j ≤ t := by have := List.mem_range.1 hj; omega
      by_cases hjt : j = t
      · subst hjt
        have : oj = ot := Option.some.inj (hoj.symm.trans hot)
        subst this
        have h2 := hall e he hb
        rw [hon, hun] at h2
        cases h2
      · cases hl : listed.getD j false with
        | true =>
          have h2 := inv.closed j oj hoj hl e he hb
          rw [hon, hun] at h2
          cases h2
        | false => exact ih (t - j) (by omega) j rfl (by omega) hl t (Nat.le_refl _) hr
    · have h1 := List.all_eq_true.1 hc t (List.mem_range.2 htlt)
      simp only [Bool.or_eq_true, decide_eq_true_eq] at h1
      rcases h1 with h1 | h1
      · omega
      · obtain ⟨o', ho', e, he, hb, hon⟩ := waits_spec h1
        have : o' = ot := Option.some.inj (ho'.symm.trans hot)
        subst this
        have h2 := hall e he hb
        rw [hon, bothD (inv.tail (t - 1) (by omega) (by omega))] at h2
        cases h2

def left (ops : Array Oper) (listed : Array Bool) : Nat := (List.range ops.size).countP fun i => !listed.getD i true
theorem countP_less {p q : Nat → Bool} : ∀ (l : List Nat), (∀ x, x ∈ l → q x = true → p x = true) → (∃ x, x ∈ l ∧ p x = true ∧ q x = false) → l.countP q + 1 ≤ l.countP p
  | [], _, h => by obtain ⟨x, hx, _⟩ := h; cases hx
  | y :: l, hs, h => by
    rw [List.countP_cons, List.countP_cons]
    have hle : l.countP q ≤ l.countP p := List.countP_mono_left (fun x hx hq => hs x (List.mem_cons_of_mem _ hx) hq)
    obtain ⟨x, hx, h1, h2⟩ := h
    rcases List.mem_cons.1 hx with rfl | hx
    · rw [h1, h2]; simp; omega
    · have ih := countP_less l (fun x hx hq => hs x (List.mem_cons_of_mem _ hx) hq) ⟨x, hx, h1, h2⟩
      by_cases hq : q y = true
      · rw [hq, hs y (by simp) hq]; simp; omega
      · rw [show q y = false by simpa using hq]; simp; omega
theorem left_set {listed : Array Bool} {i : Nat} (hi : i ∈ Region.ready .any ops listed) : left ops (listed.setIfInBounds i true) + 1 ≤ left ops listed := by
  obtain ⟨hun, o, ho, _⟩ := mem_ready.1 hi
  have hlt : i < ops.size := (Array.getElem?_eq_some_iff.1 ho).1
  unfold left
  refine countP_less _ (fun x _ hx => ?_) ⟨i, List.mem_range.2 hlt, by rw [hun]; rfl, ?_⟩
  · by_cases hxi : i = x
    · subst hxi; rw [hun]; rfl
    · rwa [getD_set_ne true hxi] at hx
  · rcases Nat.lt_or_ge i listed.size with h | h
    · simp [h]
    · simp [Array.getElem?_eq_none h] at hun

theorem least_ready {n m : Nat} (hB : planB ops n m = true) {listed : Array Bool} (hsz : listed.size = ops.size) {i : Nat} (hi : i < ops.size) (hun : listed.getD i true = false) : Region.ready .any ops listed ≠ [] := by
  simp only [planB, Bool.and_eq_true] at hB
  have hf := hB.2
  intro h0
  induction i using Nat.strongRecOn with
  | _ i ih =>
    have h1 : i ∉ Region.ready .any ops listed := by rw [h0]; simp
    apply h1
    refine mem_ready.2 ⟨hun, ops[i], by simp [hi], fun e he hbd => ?_⟩
    have h2 := List.all_eq_true.1 hf i (List.mem_range.2 hi)
    simp only [hi, Array.getElem?_eq_getElem] at h2
    have h3 : e.on < i := by
      have := Array.all_eq_true_iff_forall_mem.1 h2 e he
      simpa [hbd] using this
    cases hl : listed.getD e.on false with
    | true => rfl
    | false => exact (ih e.on h3 (by omega) (inD (by omega) hl)).elim

theorem tail_any {n m : Nat} (hB : planB ops n m = true) : ∀ (fuel t : Nat) (listed : Array Bool) (a : Act) (w : World), n ≤ t → t ≤ ops.size → listed.size = ops.size → (∀ j, j < t → listed.getD j false = true) →
    (∀ j, t ≤ j → j < ops.size → listed.getD j true = false) → left ops listed ≤ fuel → wpList P ops Q (ops.toList.drop t) a w → wpAny P .any ops Q fuel listed a w := by
  have hB0 := hB
  simp only [planB, Bool.and_eq_true, Bool.or_eq_true, decide_eq_true_eq] at hB
  obtain ⟨⟨_, hc⟩, _⟩ := hB
  have hnone : ∀ (t : Nat) (listed : Array Bool), (∀ j, j < t → listed.getD j false = true) → ops.size ≤ t → Region.ready .any ops listed = [] := by
    intro t listed hd hle
    apply List.eq_nil_iff_forall_not_mem.2
    intro j hj
    obtain ⟨hun, o, ho, _⟩ := mem_ready.1 hj
    have hlt : j < ops.size := (Array.getElem?_eq_some_iff.1 ho).1
    have h1 := hd j (by omega)
    rw [bothD hun] at h1
    cases h1
  intro fuel
  induction fuel with
  | zero =>
    intro t listed a w hnt ht hsz hd hu hl h
    by_cases hts : t = ops.size
    · rw [hts, List.drop_of_length_le (by simp)] at h
      exact ⟨hnone t listed hd (by omega), h⟩
    · exfalso
      have : 0 < left ops listed := by
        unfold left
        exact List.countP_pos_iff.2 ⟨t, List.mem_range.2 (by omega), by rw [hu t (Nat.le_refl _) (by omega)]; rfl⟩
      omega
  | succ fuel ih =>
    intro t listed a w hnt ht hsz hd hu hl h
    by_cases hts : t = ops.size
    · rw [hts, List.drop_of_length_le (by simp)] at h
      have h0 := hnone t listed hd (by omega)
      exact ⟨fun _ => h, fun i hi => by rw [h0] at hi; cases hi⟩
    · have htl : t < ops.size := by omega
      have hut := hu t (Nat.le_refl _) htl
      refine ⟨fun h0 => absurd h0 (least_ready hB0 hsz htl hut), fun i hi => ?_⟩
      have hleft := left_set hi
      obtain ⟨hun, o, ho, hall⟩ := mem_ready.1 hi
      have hit : i = t := by
        rcases Nat.lt_trichotomy i t with h1 | h1 | h1
        · have := hd i h1; rw [bothD hun] at this; cases this
        · exact h1
        · exfalso
          have hlt : i < ops.size := (Array.getElem?_eq_some_iff.1 ho).1
          have h2 := List.all_eq_true.1 hc i (List.mem_range.2 hlt)
          simp only [Bool.or_eq_true, decide_eq_true_eq] at h2
          rcases h2 with h2 | h2
          · omega
          · obtain ⟨o', ho', e, he, hb, hon⟩ := waits_spec h2
            have : o' = o := Option.some.inj (ho'.symm.trans ho)
            subst this
            have h3 := hall e he hb
            rw [hon, bothD (hu (i - 1) (by omega) (by omega))] at h3
            cases h3
      subst hit
      have hdrop : ops.toList.drop i = o :: ops.toList.drop (i + 1) := by
        have hoi : ops[i] = o := by
          have := Array.getElem?_eq_getElem htl
          exact Option.some.inj (this.symm.trans ho)
        rw [List.drop_eq_getElem_cons (by simpa using htl)]
        simp [hoi]
      rw [hdrop] at h
      have hw : wpOp P ops Q i (wpList P ops Q (ops.toList.drop (i + 1))) a w := by unfold wpOp; simp only [ho]; exact h
      refine wpOp_mono (fun a' w' h' => ih (i + 1) _ a' w' (by omega) (by omega) (by simp [hsz]) (fun j hj => ?_) (fun j hj hj' => ?_) (by omega) h') hw
      · by_cases hji : i = j
        · subst hji; simp [hsz, htl]
        · rw [getD_set_ne false hji]; exact hd j (by omega)
      · rw [getD_set_ne true (by omega)]; exact hu j (by omega) hj'

theorem inv_any {n m : Nat} {R : World → World → Prop} {w0 : World} {a0 : Act} {φ : Nat → Value → World → Prop} (hrf : ∀ x, R x x) (htr : ∀ x y z, R x y → R y z → R x z) (hφ : ∀ i v x y, R x y → φ i v x → φ i v y)
    (hB : planB ops n m = true) (_hm : a0.tmps.size = m)
    (hop : ∀ i o, i < n → ops[i]? = some o → ∀ vs w, R w0 w → (∀ j, j < n → waits ops i j = true → φ j (vs j) w) → StepOf P ops R (φ i) o (fill ops vs n a0) w)
    (hfin : ∀ vs w, R w0 w → (∀ j, j < n → φ j (vs j) w) → wpList P ops Q (ops.toList.drop n) (fill ops vs n a0) w) :
    ∀ (fuel : Nat) (listed : Array Bool) (a : Act) (w : World), Inv ops n R w0 a0 φ listed a w → left ops listed ≤ fuel → wpAny P .any ops Q fuel listed a w := by
  have hB0 := hB
  simp only [planB, Bool.and_eq_true, Bool.or_eq_true, decide_eq_true_eq] at hB
  obtain ⟨⟨⟨⟨⟨hn, hdist⟩, hbnd⟩, _⟩, hc⟩, _⟩ := hB
  have hdist' : ∀ i j, i < n → j < n → j ≠ i → dstOf ops i = none ∨ dstOf ops i ≠ dstOf ops j := by
    intro i j hi hj hne
    have h1 := List.all_eq_true.1 (List.all_eq_true.1 hdist i (List.mem_range.2 hi)) j (List.mem_range.2 hj)
    simp only [Bool.or_eq_true, decide_eq_true_eq, Option.isNone_iff_eq_none] at h1
    rcases h1 with (h1 | h1) | h1
    · omega
    · exact .inl h1
    · exact .inr h1
  intro fuel
  induction fuel with
  | zero =>
    intro listed a w inv hl
    by_cases hdone : ∀ j, j < n → listed.getD j false = true
    · obtain ⟨vs, rfl, hv⟩ := inv.facts
      exact tail_any hB0 0 n listed _ w (Nat.le_refl _) hn inv.size hdone inv.tail hl (hfin vs w inv.above fun j hj => hv j hj (hdone j hj))
    · exfalso
      obtain ⟨j, hj⟩ := Classical.not_forall.1 hdone
      obtain ⟨hj1, hj2⟩ := Classical.not_imp.1 hj
      have : 0 < left ops listed := by
        unfold left
        refine List.countP_pos_iff.2 ⟨j, List.mem_range.2 (by omega), ?_⟩
        rw [inD (by rw [inv.size]; omega) (by simpa using hj2)]; rfl
      omega
  | succ fuel ih =>
    intro listed a w inv hl
    by_cases hdone : ∀ j, j < n → listed.getD j false = true
    · obtain ⟨vs, rfl, hv⟩ := inv.facts
      exact tail_any hB0 _ n listed _ w (Nat.le_refl _) hn inv.size hdone inv.tail hl (hfin vs w inv.above fun j hj => hv j hj (hdone j hj))
    · obtain ⟨j, hj⟩ := Classical.not_forall.1 hdone
      obtain ⟨hj1, hj2⟩ := Classical.not_imp.1 hj
      have hj3 : listed.getD j false = false := by simpa using hj2
      refine ⟨fun h0 => absurd h0 (least_ready hB0 inv.size (i := j) (by omega) (inD (by rw [inv.size]; omega) hj3)), fun i hi => ?_⟩
      have hleft := left_set hi
      have hin : i < n := by
        rcases Nat.lt_or_ge i n with h | h
        · exact h
        · rcases Nat.lt_or_ge n ops.size with hns | hns
          · exact absurd hi (not_ready hB0 hns inv _ j rfl hj1 hj3 i h)
          · obtain ⟨_, o, ho, _⟩ := mem_ready.1 hi
            have hlt : i < ops.size := (Array.getElem?_eq_some_iff.1 ho).1
            omega
      obtain ⟨hun, o, ho, hall⟩ := mem_ready.1 hi
      have hlt : i < ops.size := (Array.getElem?_eq_some_iff.1 ho).1
      obtain ⟨vs, rfl, hv⟩ := inv.facts
      have hdeps : ∀ j, j < n → waits ops i j = true → φ j (vs j) w := by
        intro j hjn hw
        obtain ⟨o', ho', e, he, hb, hon⟩ := waits_spec hw
        have : o' = o := Option.some.inj (ho'.symm.trans ho)
        subst this
        have h3 := hall e he hb
        rw [hon] at h3
        exact hv j hjn h3
      have hst := hop i o hin ho vs w inv.above hdeps
      have hd0 : dstOf ops i = o.dst := by simp [dstOf, ho]
      have hnext : ∀ u w', R w w' → φ i u w' → wpAny P .any ops Q fuel (listed.setIfInBounds i true) ((fill ops vs n a0).put o.dst u) w' := by
        intro u w' hR hu
        refine ih _ _ _ ⟨by simp [inv.size], fun j oj hoj hlj e he hb => ?_, fun t ht ht' => by rw [getD_set_ne true (by omega)]; exact inv.tail t ht ht', htr _ _ _ inv.above hR, ⟨fun j => if j = i then u else vs j, ?_, fun j hjn hlj => ?_⟩⟩ (by omega)
        · by_cases hij : i = j
          · subst hij
            have : oj = o := Option.some.inj (hoj.symm.trans ho)
            subst this
            exact getD_set_true (hall e he hb)
          · rw [getD_set_ne false hij] at hlj
            exact getD_set_true (inv.closed j oj hoj hlj e he hb)
        · rw [← hd0]
          exact fill_set vs a0 i u n (fun j hj hne => hdist' i j hin hj hne) hin
        · by_cases hij : j = i
          · subst hij; simpa using hu
          · simp only [hij, if_false]
            rw [getD_set_ne false (Ne.symm hij)] at hlj
            exact hφ j _ _ _ hR (hv j hjn hlj)
      unfold wpOp
      rw [ho]
      show if Region.wanted o (yielded ops (fill ops vs n a0).tmps) = true then _ else _
      unfold StepOf at hst
      split
      · rename_i hw
        rw [if_pos hw] at hst
        exact .inl (hst.wp fun v w' ⟨h1, h2⟩ => hnext v w' h1 h2)
      · rename_i hw
        rw [if_neg hw] at hst
        exact hnext undef w (hrf w) hst

def Plan (P : Program) (ops : Array Oper) (Q : Exit → Act → World → Prop) (R : World → World → Prop) (w0 : World) (n : Nat) (F : (Nat → Value) → Act) : List Oper → Nat → List (Nat × (Value → World → Prop)) → Prop
  | [], _, φs => ∀ vs w, R w0 w → (∀ (k j : Nat) (φ : Value → World → Prop), φs[k]? = some (j, φ) → φ (vs j) w) → wpList P ops Q (ops.toList.drop n) (F vs) w
  | o :: rest, i, φs => ∃ φ : Value → World → Prop, (∀ v x y, R x y → φ v x → φ v y) ∧
      (∀ vs w, R w0 w → (∀ (k j : Nat) (φ' : Value → World → Prop), φs[k]? = some (j, φ') → waits ops i j = true → φ' (vs j) w) → StepOf P ops R φ o (F vs) w) ∧ Plan P ops Q R w0 n F rest (i + 1) ((i, φ) :: φs)

theorem Plan.spec {R : World → World → Prop} {w0 : World} {n : Nat} {F : (Nat → Value) → Act} : ∀ (l : List Oper) (i : Nat) (φs : List (Nat × (Value → World → Prop))) (pre : List (Value → World → Prop)), Plan P ops Q R w0 n F l i φs → pre.length = i →
    (∀ (j : Nat) (φ : Value → World → Prop), (j, φ) ∈ φs → pre[j]? = some φ) → (∀ (φ : Value → World → Prop), φ ∈ pre → ∀ v x y, R x y → φ v x → φ v y) →
    ∃ full : List (Value → World → Prop), full.length = i + l.length ∧ (∀ (j : Nat) (φ : Value → World → Prop), pre[j]? = some φ → full[j]? = some φ) ∧ (∀ (φ : Value → World → Prop), φ ∈ full → ∀ v x y, R x y → φ v x → φ v y) ∧
      (∀ (k : Nat) (o : Oper) (φ : Value → World → Prop), l[k]? = some o → full[i + k]? = some φ → ∀ vs w, R w0 w → (∀ (j : Nat) (φ' : Value → World → Prop), j < i + k → full[j]? = some φ' → waits ops (i + k) j = true → φ' (vs j) w) → StepOf P ops R φ o (F vs) w) ∧
      (∀ vs w, R w0 w → (∀ (j : Nat) (φ : Value → World → Prop), full[j]? = some φ → φ (vs j) w) → wpList P ops Q (ops.toList.drop n) (F vs) w)
  | [], i, φs, pre, h, hl, hm, hst => ⟨pre, by simpa using hl, fun _ _ h => h, hst, fun k o φ hk => by simp at hk, fun vs w hR hF => h vs w hR fun k j φ hk => hF j φ (hm j φ (List.mem_of_getElem? hk))⟩
  | o :: rest, i, φs, pre, h, hl, hm, hst => by
    obtain ⟨φ, h1, h2, h3⟩ := h
    obtain ⟨full, f1, f2, f3, f4, f5⟩ := Plan.spec rest (i + 1) ((i, φ) :: φs) (pre ++ [φ]) h3 (by simp [hl]) (fun j φ' hj => by
      rcases List.mem_cons.1 hj with hj | hj
      · simp only [Prod.mk.injEq] at hj
        obtain ⟨rfl, rfl⟩ := hj
        rw [List.getElem?_append_right (by omega)]; simp [hl]
      · have := hm j φ' hj
        have hjl : j < pre.length := (List.getElem?_eq_some_iff.1 this).1
        rw [List.getElem?_append_left hjl]; exact this) (fun φ' hm => by
      rcases List.mem_append.1 hm with hm | hm
      · exact hst φ' hm
      · rw [List.mem_singleton.1 hm]; exact h1)
    refine ⟨full, by simp only [List.length_cons]; omega, fun j φ' hj => f2 j φ' (by
      have : j < pre.length := (List.getElem?_eq_some_iff.1 hj).1
      rw [List.getElem?_append_left this]; exact hj), f3, fun k o' φ' hk hf => ?_, f5⟩
    cases k with
    | zero =>
      simp at hk
      subst hk
      have hφ : full[i]? = some φ := f2 i φ (by rw [List.getElem?_append_right (by omega)]; simp [hl])
      rw [Nat.add_zero, hφ] at hf
      obtain rfl := Option.some.inj hf
      intro vs w hR hF
      refine h2 vs w hR fun k j φ' hk hw => ?_
      have hj := hm j φ' (List.mem_of_getElem? hk)
      have hjl : j < pre.length := (List.getElem?_eq_some_iff.1 hj).1
      exact hF j φ' (by omega) (f2 j φ' (by rw [List.getElem?_append_left hjl]; exact hj)) hw
    | succ k =>
      have := f4 k o' φ' (by simpa using hk) (by rw [show i + 1 + k = i + (k + 1) by omega]; exact hf)
      rw [show i + 1 + k = i + (k + 1) by omega] at this
      exact this

theorem wp_region_inv {id : Nat} {a : Act} {w : World} {l : List Oper} (n : Nat) (R : World → World → Prop) (hm : P.follows .mixedOrders = true) (hB : planB l.toArray n a.tmps.size = true)
    (hrf : ∀ x, R x x) (htr : ∀ x y z, R x y → R y z → R x z) (h : Plan P l.toArray Q R w.drew n (fun vs => fill l.toArray vs n a) (l.take n) 0 []) : (Code.region id l.toArray true).wp P Q a w := by
  obtain ⟨full, f1, f2, f3, f4, f5⟩ := Plan.spec _ _ _ [] h rfl (fun j φ hm => by cases hm) (fun φ hm => by cases hm)
  have hn : n ≤ l.length := by
    simp only [planB, Bool.and_eq_true, decide_eq_true_eq] at hB
    simpa using hB.1.1.1.1.1
  have hlen : full.length = n := by rw [f1]; simp [hn]
  refine wp_region_any hm (inv_any (R := R) (w0 := w.drew) (a0 := a) (n := n) (φ := fun i => full.getD i (fun _ _ => True)) hrf htr (fun i v x y hR hp => ?_) hB rfl (fun i o hi ho vs x hR hF => ?_) (fun vs x hR hF => ?_) _ _ _ _ ⟨by simp, fun j oj _ hl => (by rw [repD] at hl; cases hl), fun t _ ht => inD (by simpa using ht) (repD _ _), hrf _, ⟨fun j => match dstOf l.toArray j with | some d => a.tmps.getD d undef | none => undef, ?_, fun j _ hj => (by rw [repD] at hj; cases hj)⟩⟩ ?_)
  · by_cases hi : i < full.length
    · have he : full.getD i (fun _ _ => True) = full[i] := by simp [hi]
      simp only [he] at hp ⊢
      exact f3 _ (List.getElem_mem hi) v x y hR hp
    · have he : full.getD i (fun _ _ => True) = fun _ _ => True := by rw [List.getD_eq_getElem?_getD, List.getElem?_eq_none (by omega)]; rfl
      simp only [he]
  · have he : full[0 + i]? = some (full.getD i (fun _ _ => True)) := by rw [Nat.zero_add]; simp [show i < full.length by omega]
    refine f4 i o _ (by rw [List.getElem?_take]; rw [if_pos hi]; simpa using ho) he vs x hR fun j φ' hj hf hw => ?_
    have := hF j (by omega) (by rw [Nat.zero_add] at hw; exact hw)
    rwa [List.getD_eq_getElem?_getD, hf] at this
  · refine f5 vs x hR fun j φ hj => ?_
    have := hF j (by rw [← hlen]; exact (List.getElem?_eq_some_iff.1 hj).1)
    rwa [List.getD_eq_getElem?_getD, hj] at this
  · have key : ∀ k, fill l.toArray (fun j => match dstOf l.toArray j with | some d => a.tmps.getD d undef | none => undef) k a = a := by
      intro k
      induction k with
      | zero => rfl
      | succ k ih =>
        rw [fill, ih]
        cases hd : dstOf l.toArray k with
        | none => rfl
        | some d =>
          obtain ⟨tmps, defers⟩ := a
          simp only [Act.put]
          congr 1
          apply Array.ext
          · simp
          · intro i h1 h2
            by_cases hdi : d = i
            · subst hdi
              simp [h2]
            · rw [Array.getElem_setIfInBounds (by simpa using h1), if_neg hdi]
    exact (key n).symm
  · unfold left
    refine Nat.le_trans List.countP_le_length ?_
    simp

theorem StepOf.of {R : World → World → Prop} {φ : Value → World → Prop} {o : Oper} {a : Act} {w : World} (_hrf : R w w)
    (h : ∀ K : Value → World → Prop, (∀ v w', R w w' → φ v w' → K v w') → if Region.wanted o (yielded ops a.tmps) then gives P o a w K else K undef w) : StepOf P ops R φ o a w := by
  have := h (fun v w' => R w w' ∧ φ v w') (fun v w' h1 h2 => ⟨h1, h2⟩)
  unfold StepOf
  split
  · rename_i hw; rw [if_pos hw] at this; exact this
  · rename_i hw; rw [if_neg hw] at this; exact this.2

theorem Plan.det {R : World → World → Prop} {w0 : World} {n : Nat} {F : (Nat → Value) → Act} {o : Oper} {rest : List Oper} {i : Nat} {φs : List (Nat × (Value → World → Prop))} (i' : Nat) (hi : i + 1 = i') (hrf : ∀ x, R x x)
    (h : ∃ c : Value, (∀ vs w, R w0 w → (∀ (k j : Nat) (φ' : Value → World → Prop), φs[k]? = some (j, φ') → waits ops i j = true → φ' (vs j) w) → ∀ K : Value → World → Prop, (∀ v w', R w w' → v = c → K v w') →
      if Region.wanted o (yielded ops (F vs).tmps) then gives P o (F vs) w K else K undef w) ∧ Plan P ops Q R w0 n F rest i' ((i, fun v _ => v = c) :: φs)) :
    Plan P ops Q R w0 n F (o :: rest) i φs := by
  subst hi
  obtain ⟨c, h1, h2⟩ := h
  exact ⟨fun v _ => v = c, fun _ _ _ _ h => h, fun vs w hR hF => StepOf.of (hrf w) (h1 vs w hR hF), h2⟩
theorem Plan.rel {R : World → World → Prop} {w0 : World} {n : Nat} {F : (Nat → Value) → Act} {o : Oper} {rest : List Oper} {i : Nat} {φs : List (Nat × (Value → World → Prop))} (i' : Nat) (hi : i + 1 = i') (hrf : ∀ x, R x x) (φ : Value → World → Prop)
    (hφ : ∀ v x y, R x y → φ v x → φ v y) (h1 : ∀ vs w, R w0 w → (∀ (k j : Nat) (φ' : Value → World → Prop), φs[k]? = some (j, φ') → waits ops i j = true → φ' (vs j) w) → ∀ K : Value → World → Prop, (∀ v w', R w w' → φ v w' → K v w') →
      if Region.wanted o (yielded ops (F vs).tmps) then gives P o (F vs) w K else K undef w) (h2 : Plan P ops Q R w0 n F rest i' ((i, φ) :: φs)) :
    Plan P ops Q R w0 n F (o :: rest) i φs := by
  subst hi
  exact ⟨φ, hφ, fun vs w hR hF => StepOf.of (hrf w) (h1 vs w hR hF), h2⟩
theorem Plan.nil {R : World → World → Prop} {w0 : World} {n : Nat} {F : (Nat → Value) → Act} {i : Nat} {φs : List (Nat × (Value → World → Prop))}
    (h : ∀ vs w, R w0 w → (∀ (k j : Nat) (φ : Value → World → Prop), φs[k]? = some (j, φ) → φ (vs j) w) → wpList P ops Q (ops.toList.drop n) (F vs) w) : Plan P ops Q R w0 n F [] i φs := h
attribute [irreducible] Plan
end
end Go.Proofs.YthnpbopnpdlmnaaDoor
