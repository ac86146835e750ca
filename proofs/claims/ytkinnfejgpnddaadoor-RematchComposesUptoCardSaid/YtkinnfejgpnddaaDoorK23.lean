/- A region that draws its order, as in InvG, with one thing more: what is known behind an operation may speak of the values of those for which it waits (a store into a variable that another operation made). Nothing here speaks of the program. -/
import Derived.Test.YtkinnfejgpnddaaDoorK22
import Derived.Test.YtkinnfejgpnddaaDoorK01
import Derived.Test.YtkinnfejgpnddaaDoorK21
namespace Go.Proofs.YtkinnfejgpnddaaDoor
open Go.RowKit

section
variable {P : Program} {ops : Array Oper} {Q : Exit → Act → World → Prop}

structure InvG (ops : Array Oper) (n : Nat) (R : World → World → Prop) (w0 : World) (a0 : Act) (φ : Nat → (Nat → Value) → World → Prop) (B : Nat → Bool) (listed : Array Bool) (a : Act) (w : World) : Prop where
  size : listed.size = ops.size
  closed : ∀ j oj, ops[j]? = some oj → listed.getD j false = true → ∀ e ∈ oj.after, Region.binds .any e = true → listed.getD e.on false = true
  tail : ∀ t, n ≤ t → t < ops.size → listed.getD t true = false
  above : R w0 w
  facts : ∃ vs, a = fill ops vs n a0 ∧ (∀ j, j < n → listed.getD j false = true → φ j vs w) ∧ ∀ i j, i < n → j < n → i ≠ j → B i = true → B j = true → listed.getD i false = true → listed.getD j false = true → vs i ≠ vs j

theorem InvG.toInv {n : Nat} {R : World → World → Prop} {w0 : World} {a0 : Act} {φ : Nat → (Nat → Value) → World → Prop} {B : Nat → Bool} {listed : Array Bool} {a : Act} {w : World} (h : InvG ops n R w0 a0 φ B listed a w) : Inv ops n R w0 a0 (fun _ _ _ => True) listed a w :=
  ⟨h.size, h.closed, h.tail, h.above, let ⟨vs, h1, _, _⟩ := h.facts; ⟨vs, h1, fun _ _ _ => trivial⟩⟩

def StepOfG (P : Program) (ops : Array Oper) (R : World → World → Prop) (φ : Value → World → Prop) (b : Bool) (o : Oper) (a : Act) (w : World) : Prop :=
  if Region.wanted o (yielded ops a.tmps) then gives P o a w (fun v w' => R w w' ∧ φ v w' ∧ bornAt b v w) else φ undef w ∧ b = false

theorem inv_anyG {n m : Nat} {R : World → World → Prop} {w0 : World} {a0 : Act} {φ : Nat → (Nat → Value) → World → Prop} {B : Nat → Bool} (hrf : ∀ x, R x x) (htr : ∀ x y z, R x y → R y z → R x z) (hφ : ∀ i vs x y, R x y → φ i vs x → φ i vs y)
    (hloc : ∀ i vs vs' x, (∀ k, k = i ∨ waits ops i k = true → vs k = vs' k) → φ i vs x → φ i vs' x)
    (hBo : ∀ i vs x, B i = true → φ i vs x → vs i ≠ .pointer (some ⟨x.heap.size, 0, none⟩))
    (hB : planB ops n m = true) (_hm : a0.tmps.size = m)
    (hop : ∀ i o, i < n → ops[i]? = some o → ∀ vs w, R w0 w → (∀ j, j < n → waits ops i j = true → φ j vs w) → StepOfG P ops R (fun v x => φ i (fun j => if j = i then v else vs j) x) (B i) o (fill ops vs n a0) w)
    (hfin : ∀ vs w, R w0 w → (∀ j, j < n → φ j vs w) → (∀ i j, i < n → j < n → i ≠ j → B i = true → B j = true → vs i ≠ vs j) → wpList P ops Q (ops.toList.drop n) (fill ops vs n a0) w) :
    ∀ (fuel : Nat) (listed : Array Bool) (a : Act) (w : World), InvG ops n R w0 a0 φ B listed a w → left ops listed ≤ fuel → wpAny P .any ops Q fuel listed a w := by
  have hB0 := hB
  simp only [planB, Bool.and_eq_true, Bool.or_eq_true, decide_eq_true_eq] at hB
  obtain ⟨⟨⟨⟨⟨hn, hdist⟩, hbnd⟩, _⟩, hc⟩, _⟩ := hB
  have hdist' : ∀ i j, i < n → j < n → j ≠ i → dstOf ops i = none ∨ dstOf ops i ≠ dstOf ops j := by
    intro i j hi hj hne
    have h1 := List.all_eq_true.1 (List.all_eq_true.1 hdist i (List.mem_range.2 hi)) j (List.mem_range.2 hj)
    simp only [Bool.or_eq_true, decide_eq_true_eq, Option.isNone_iff_eq_none] at h1
    rcases h1 with (h1 | h1) | h1
    · omega
    · exact .inl h1
    · exact .inr h1
  intro fuel
  induction fuel with
  | zero =>
    intro listed a w inv hl
    by_cases hdone : ∀ j, j < n → listed.getD j false = true
    · obtain ⟨vs, rfl, hv, hd⟩ := inv.facts
      exact tail_any hB0 0 n listed _ w (Nat.le_refl _) hn inv.size hdone inv.tail hl (hfin vs w inv.above (fun j hj => hv j hj (hdone j hj)) fun i j hi hj hne h1 h2 => hd i j hi hj hne h1 h2 (hdone i hi) (hdone j hj))
    · exfalso
      obtain ⟨j, hj⟩ := Classical.not_forall.1 hdone
      obtain ⟨hj1, hj2⟩ := Classical.not_imp.1 hj
      have : 0 < left ops listed := by
        unfold left
        refine List.countP_pos_iff.2 ⟨j, List.mem_range.2 (by omega), ?_⟩
        rw [inD (by rw [inv.size]; omega) (by simpa using hj2)]; rfl
      omega
  | succ fuel ih =>
    intro listed a w inv hl
    by_cases hdone : ∀ j, j < n → listed.getD j false = true
    · obtain ⟨vs, rfl, hv, hd⟩ := inv.facts
      exact tail_any hB0 _ n listed _ w (Nat.le_refl _) hn inv.size hdone inv.tail hl (hfin vs w inv.above (fun j hj => hv j hj (hdone j hj)) fun i j hi hj hne h1 h2 => hd i j hi hj hne h1 h2 (hdone i hi) (hdone j hj))
    · obtain ⟨j, hj⟩ := Classical.not_forall.1 hdone
      obtain ⟨hj1, hj2⟩ := Classical.not_imp.1 hj
      have hj3 : listed.getD j false = false := by simpa using hj2
      refine ⟨fun h0 => absurd h0 (least_ready hB0 inv.size (i := j) (by omega) (inD (by rw [inv.size]; omega) hj3)), fun i hi => ?_⟩
      have hleft := left_set hi
      have hin : i < n := by
        rcases Nat.lt_or_ge i n with h | h
        · exact h
        · rcases Nat.lt_or_ge n ops.size with hns | hns
          · exact absurd hi (not_ready hB0 hns inv.toInv _ j rfl hj1 hj3 i h)
          · obtain ⟨_, o, ho, _⟩ := mem_ready.1 hi
            have hlt : i < ops.size := (Array.getElem?_eq_some_iff.1 ho).1
            omega
      obtain ⟨hun, o, ho, hall⟩ := mem_ready.1 hi
      have hlt : i < ops.size := (Array.getElem?_eq_some_iff.1 ho).1
      obtain ⟨vs, rfl, hv, hd⟩ := inv.facts
      have hdeps : ∀ j, j < n → waits ops i j = true → φ j vs w := by
        intro j hjn hw
        obtain ⟨o', ho', e, he, hb, hon⟩ := waits_spec hw
        have : o' = o := Option.some.inj (ho'.symm.trans ho)
        subst this
        have h3 := hall e he hb
        rw [hon] at h3
        exact hv j hjn h3
      have hst := hop i o hin ho vs w inv.above hdeps
      have hd0 : dstOf ops i = o.dst := by simp [dstOf, ho]
      have hnext : ∀ u w', R w w' → φ i (fun j => if j = i then u else vs j) w' → bornAt (B i) u w → wpAny P .any ops Q fuel (listed.setIfInBounds i true) ((fill ops vs n a0).put o.dst u) w' := by
        intro u w' hR hu hbn
        refine ih _ _ _ ⟨by simp [inv.size], fun j oj hoj hlj e he hb => ?_, fun t ht ht' => by rw [getD_set_ne true (by omega)]; exact inv.tail t ht ht', htr _ _ _ inv.above hR, ⟨fun j => if j = i then u else vs j, ?_, fun j hjn hlj => ?_, fun j k hjn hkn hne hj1 hk1 hlj hlk => ?_⟩⟩ (by omega)
        · by_cases hij : i = j
          · subst hij
            have : oj = o := Option.some.inj (hoj.symm.trans ho)
            subst this
            exact getD_set_true (hall e he hb)
          · rw [getD_set_ne false hij] at hlj
            exact getD_set_true (inv.closed j oj hoj hlj e he hb)
        · rw [← hd0]
          exact fill_set vs a0 i u n (fun j hj hne => hdist' i j hin hj hne) hin
        · by_cases hij : j = i
          · subst hij; exact hu
          · rw [getD_set_ne false (Ne.symm hij)] at hlj
            refine hloc j vs _ _ (fun k hk => ?_) (hφ j _ _ _ hR (hv j hjn hlj))
            have hki : k ≠ i := by
              rintro rfl
              rcases hk with hk | hk
              · exact hij hk.symm
              · obtain ⟨oj, hoj, e, he, hb, hon⟩ := waits_spec hk
                have h3 := inv.closed j oj hoj hlj e he hb
                rw [hon, bothD hun] at h3
                cases h3
            rw [if_neg hki]
        · by_cases hji : j = i
          · subst hji
            have hkj : k ≠ j := Ne.symm hne
            simp only [if_true, hkj, if_false]
            rw [getD_set_ne false (Ne.symm hkj)] at hlk
            rw [hbn hj1]
            exact Ne.symm (hBo k vs w hk1 (hv k hkn hlk))
          · by_cases hki : k = i
            · subst hki
              simp only [if_true, hji, if_false]
              rw [getD_set_ne false (Ne.symm hji)] at hlj
              rw [hbn hk1]
              exact hBo j vs w hj1 (hv j hjn hlj)
            · simp only [hji, hki, if_false]
              rw [getD_set_ne false (Ne.symm hji)] at hlj
              rw [getD_set_ne false (Ne.symm hki)] at hlk
              exact hd j k hjn hkn hne hj1 hk1 hlj hlk
      unfold wpOp
      rw [ho]
      show if Region.wanted o (yielded ops (fill ops vs n a0).tmps) = true then _ else _
      unfold StepOfG at hst
      split
      · rename_i hw
        rw [if_pos hw] at hst
        exact .inl (hst.wp fun v w' ⟨h1, h2, h3⟩ => hnext v w' h1 h2 h3)
      · rename_i hw
        rw [if_neg hw] at hst
        exact hnext undef w (hrf w) hst.1 (fun h => by rw [hst.2] at h; cases h)

/-- As 'Plan'; fs: the operations that make a variable. -/
def PlanG (P : Program) (ops : Array Oper) (Q : Exit → Act → World → Prop) (R : World → World → Prop) (w0 : World) (n : Nat) (F : (Nat → Value) → Act) : List Oper → Nat → List (Nat × ((Nat → Value) → World → Prop)) → List Nat → Prop
  | [], _, φs, fs => ∀ vs w, R w0 w → (∀ (k j : Nat) (φ : (Nat → Value) → World → Prop), φs[k]? = some (j, φ) → φ vs w) → (∀ i j, i ∈ fs → j ∈ fs → i ≠ j → vs i ≠ vs j) → wpList P ops Q (ops.toList.drop n) (F vs) w
  | o :: rest, i, φs, fs => ∃ (φ : (Nat → Value) → World → Prop) (b : Bool), ((∀ vs x y, R x y → φ vs x → φ vs y) ∧ (∀ vs vs' x, (∀ k, k = i ∨ waits ops i k = true → vs k = vs' k) → φ vs x → φ vs' x) ∧ (b = true → ∀ vs x, φ vs x → vs i ≠ .pointer (some ⟨x.heap.size, 0, none⟩))) ∧
      (∀ vs w, R w0 w → (∀ (k j : Nat) (φ' : (Nat → Value) → World → Prop), φs[k]? = some (j, φ') → waits ops i j = true → φ' vs w) → StepOfG P ops R (fun v x => φ (fun j => if j = i then v else vs j) x) b o (F vs) w) ∧ PlanG P ops Q R w0 n F rest (i + 1) ((i, φ) :: φs) (if b = true then i :: fs else fs)

/-- What is asked of what is known behind an operation. -/
def OkG (ops : Array Oper) (R : World → World → Prop) (i : Nat) (e : ((Nat → Value) → World → Prop) × Bool) : Prop :=
  (∀ vs x y, R x y → e.1 vs x → e.1 vs y) ∧ (∀ vs vs' x, (∀ k, k = i ∨ waits ops i k = true → vs k = vs' k) → e.1 vs x → e.1 vs' x) ∧ (e.2 = true → ∀ vs x, e.1 vs x → vs i ≠ .pointer (some ⟨x.heap.size, 0, none⟩))
theorem PlanG.spec {R : World → World → Prop} {w0 : World} {n : Nat} {F : (Nat → Value) → Act} : ∀ (l : List Oper) (i : Nat) (φs : List (Nat × ((Nat → Value) → World → Prop))) (fs : List Nat) (pre : List (((Nat → Value) → World → Prop) × Bool)), PlanG P ops Q R w0 n F l i φs fs → pre.length = i →
    (∀ (j : Nat) (φ : (Nat → Value) → World → Prop), (j, φ) ∈ φs → ∃ b, pre[j]? = some (φ, b)) → (∀ j, j ∈ fs → ∃ φ, pre[j]? = some (φ, true)) → (∀ k e, pre[k]? = some e → OkG ops R k e) →
    ∃ full : List (((Nat → Value) → World → Prop) × Bool), full.length = i + l.length ∧ (∀ (j : Nat) e, pre[j]? = some e → full[j]? = some e) ∧ (∀ k e, full[k]? = some e → OkG ops R k e) ∧
      (∀ (k : Nat) (o : Oper) e, l[k]? = some o → full[i + k]? = some e → ∀ vs w, R w0 w → (∀ (j : Nat) e', j < i + k → full[j]? = some e' → waits ops (i + k) j = true → e'.1 vs w) → StepOfG P ops R (fun v x => e.1 (fun j => if j = i + k then v else vs j) x) e.2 o (F vs) w) ∧
      (∀ vs w, R w0 w → (∀ (j : Nat) e, full[j]? = some e → e.1 vs w) → (∀ i j e e', full[i]? = some e → full[j]? = some e' → e.2 = true → e'.2 = true → i ≠ j → vs i ≠ vs j) → wpList P ops Q (ops.toList.drop n) (F vs) w)
  | [], i, φs, fs, pre, h, hl, hm, hf, hst => ⟨pre, by simpa using hl, fun _ _ h => h, hst, fun k o φ hk => by simp at hk, fun vs w hR hF hD => h vs w hR (fun k j φ hk => by
      obtain ⟨b, hb⟩ := hm j φ (List.mem_of_getElem? hk)
      exact hF j _ hb) fun i j hi hj hne => by
      obtain ⟨φ, h1⟩ := hf i hi
      obtain ⟨φ', h2⟩ := hf j hj
      exact hD i j _ _ h1 h2 rfl rfl hne⟩
  | o :: rest, i, φs, fs, pre, h, hl, hm, hf, hst => by
    obtain ⟨φ, b, h1, h2, h3⟩ := h
    have happ : ∀ j e, pre[j]? = some e → (pre ++ [(φ, b)])[j]? = some e := fun j e hj => by
      have hjl : j < pre.length := (List.getElem?_eq_some_iff.1 hj).1
      rw [List.getElem?_append_left hjl]; exact hj
    have hnew : (pre ++ [(φ, b)])[i]? = some (φ, b) := by rw [List.getElem?_append_right (by omega)]; simp [hl]
    obtain ⟨full, f1, f2, f3, f4, f5⟩ := PlanG.spec rest (i + 1) ((i, φ) :: φs) (if b = true then i :: fs else fs) (pre ++ [(φ, b)]) h3 (by simp [hl]) (fun j φ' hj => by
      rcases List.mem_cons.1 hj with hj | hj
      · simp only [Prod.mk.injEq] at hj
        obtain ⟨rfl, rfl⟩ := hj
        exact ⟨b, hnew⟩
      · obtain ⟨b', hb'⟩ := hm j φ' hj
        exact ⟨b', happ j _ hb'⟩) (fun j hj => by
      by_cases hb : b = true
      · subst hb
        rw [if_pos rfl] at hj
        rcases List.mem_cons.1 hj with hj | hj
        · subst hj; exact ⟨φ, hnew⟩
        · obtain ⟨φ', h'⟩ := hf j hj; exact ⟨φ', happ j _ h'⟩
      · rw [if_neg hb] at hj
        obtain ⟨φ', h'⟩ := hf j hj
        exact ⟨φ', happ j _ h'⟩) (fun k e he => by
      rcases Nat.lt_or_ge k pre.length with hk | hk
      · rw [List.getElem?_append_left hk] at he; exact hst k e he
      · have hk2 : k < (pre ++ [(φ, b)]).length := (List.getElem?_eq_some_iff.1 he).1
        rw [List.length_append, List.length_singleton] at hk2
        obtain rfl : k = i := by omega
        rw [hnew] at he
        rw [← Option.some.inj he]; exact h1)
    refine ⟨full, by simp only [List.length_cons]; omega, fun j e hj => f2 j e (happ j e hj), f3, fun k o' e hk he => ?_, f5⟩
    cases k with
    | zero =>
      simp at hk
      subst hk
      have hφ : full[i]? = some (φ, b) := f2 i _ hnew
      rw [Nat.add_zero, hφ] at he
      obtain rfl := Option.some.inj he
      intro vs w hR hF
      refine h2 vs w hR fun k j φ' hk hw => ?_
      obtain ⟨b', hb'⟩ := hm j φ' (List.mem_of_getElem? hk)
      have hjl : j < pre.length := (List.getElem?_eq_some_iff.1 hb').1
      exact hF j _ (by omega) (f2 j _ (happ j _ hb')) hw
    | succ k =>
      have := f4 k o' e (by simpa using hk) (by rw [show i + 1 + k = i + (k + 1) by omega]; exact he)
      rw [show i + 1 + k = i + (k + 1) by omega] at this
      exact this

/-- A region that draws its order: as 'wp_region_inv'; behind it the variables that it made are different. -/
theorem wp_region_invG {id : Nat} {a : Act} {w : World} {l : List Oper} (n : Nat) (R : World → World → Prop) (hm : P.follows .mixedOrders = true) (hB : planB l.toArray n a.tmps.size = true)
    (hrf : ∀ x, R x x) (htr : ∀ x y z, R x y → R y z → R x z) (h : PlanG P l.toArray Q R w.drew n (fun vs => fill l.toArray vs n a) (l.take n) 0 [] []) : (Code.region id l.toArray true).wp P Q a w := by
  obtain ⟨full, f1, f2, f3, f4, f5⟩ := PlanG.spec _ _ _ _ [] h rfl (fun j φ hm => by cases hm) (fun j hj => by cases hj) (fun k e he => by simp at he)
  have hn : n ≤ l.length := by
    simp only [planB, Bool.and_eq_true, decide_eq_true_eq] at hB
    simpa using hB.1.1.1.1.1
  have hlen : full.length = n := by rw [f1]; simp [hn]
  have hget : ∀ i (_ : i < n), full[i]? = some (full.getD i (fun _ _ => True, false)) := fun i hi => by simp [show i < full.length by omega]
  refine wp_region_any hm (inv_anyG (R := R) (w0 := w.drew) (a0 := a) (n := n) (φ := fun i => (full.getD i (fun _ _ => True, false)).1) (B := fun i => (full.getD i (fun _ _ => True, false)).2) hrf htr (fun i vs x y hR hp => ?_) (fun i vs vs' x hvv hp => ?_) (fun i vs x hb hp => ?_) hB rfl (fun i o hi ho vs x hR hF => ?_) (fun vs x hR hF hD => ?_) _ _ _ _ ⟨by simp, fun j oj _ hl => (by rw [repD] at hl; cases hl), fun t _ ht => inD (by simpa using ht) (repD _ _), hrf _, ⟨fun j => match dstOf l.toArray j with | some d => a.tmps.getD d undef | none => undef, ?_, fun j _ hl => (by rw [repD] at hl; cases hl), fun i j _ _ _ _ _ hl => (by rw [repD] at hl; cases hl)⟩⟩ ?_)
  · by_cases hi : i < full.length
    · have he : full.getD i (fun _ _ => True, false) = full[i] := by simp [hi]
      simp only [he] at hp ⊢
      exact (f3 i _ (List.getElem?_eq_getElem hi)).1 vs x y hR hp
    · have he : full.getD i (fun _ _ => True, false) = (fun _ _ => True, false) := by rw [List.getD_eq_getElem?_getD, List.getElem?_eq_none (by omega)]; rfl
      simp only [he]
  · by_cases hi : i < full.length
    · have he : full.getD i (fun _ _ => True, false) = full[i] := by simp [hi]
      simp only [he] at hp ⊢
      exact (f3 i _ (List.getElem?_eq_getElem hi)).2.1 vs vs' x hvv hp
    · have he : full.getD i (fun _ _ => True, false) = (fun _ _ => True, false) := by rw [List.getD_eq_getElem?_getD, List.getElem?_eq_none (by omega)]; rfl
      simp only [he]
  · by_cases hi : i < full.length
    · have he : full.getD i (fun _ _ => True, false) = full[i] := by simp [hi]
      simp only [he] at hp hb ⊢
      exact (f3 i _ (List.getElem?_eq_getElem hi)).2.2 hb vs x hp
    · have he : full.getD i (fun _ _ => True, false) = (fun _ _ => True, false) := by rw [List.getD_eq_getElem?_getD, List.getElem?_eq_none (by omega)]; rfl
      simp only [he] at hb
      cases hb
  · have he : full[0 + i]? = some (full.getD i (fun _ _ => True, false)) := by rw [Nat.zero_add]; exact hget i hi
    have hg := f4 i o _ (by rw [List.getElem?_take]; rw [if_pos hi]; simpa using ho) he vs x hR fun j φ' hj hf hw => ?_
    · rw [Nat.zero_add] at hg; exact hg
    have := hF j (by omega) (by rw [Nat.zero_add] at hw; exact hw)
    rwa [List.getD_eq_getElem?_getD, hf] at this
  · refine f5 vs x hR (fun j φ hj => ?_) fun i j e e' hi hj h1 h2 hne => ?_
    · have := hF j (by rw [← hlen]; exact (List.getElem?_eq_some_iff.1 hj).1)
      rwa [List.getD_eq_getElem?_getD, hj] at this
    · refine hD i j (by rw [← hlen]; exact (List.getElem?_eq_some_iff.1 hi).1) (by rw [← hlen]; exact (List.getElem?_eq_some_iff.1 hj).1) hne ?_ ?_
      · rw [List.getD_eq_getElem?_getD, hi]; exact h1
      · rw [List.getD_eq_getElem?_getD, hj]; exact h2
  · have key : ∀ k, fill l.toArray (fun j => match dstOf l.toArray j with | some d => a.tmps.getD d undef | none => undef) k a = a := by
      intro k
      induction k with
      | zero => rfl
      | succ k ih =>
        rw [fill, ih]
        cases hd : dstOf l.toArray k with
        | none => rfl
        | some d =>
          obtain ⟨tmps, defers⟩ := a
          simp only [Act.put]
          congr 1
          apply Array.ext
          · simp
          · intro i h1 h2
            by_cases hdi : d = i
            · subst hdi
              simp [h2]
            · rw [Array.getElem_setIfInBounds (by simpa using h1), if_neg hdi]
    exact (key n).symm
  · unfold left
    refine Nat.le_trans List.countP_le_length ?_
    simp

theorem StepOfG.of {R : World → World → Prop} {φ : Value → World → Prop} {b : Bool} {o : Oper} {a : Act} {w : World} (_hrf : R w w)
    (h : ∀ K : Value → World → Prop, (∀ v w', R w w' → φ v w' → K v w') → if Region.wanted o (yielded ops a.tmps) then gives P o a w K else K undef w) (hb : b = false) : StepOfG P ops R φ b o a w := by
  have := h (fun v w' => R w w' ∧ φ v w' ∧ bornAt b v w) (fun v w' h1 h2 => ⟨h1, h2, fun h => by rw [hb] at h; cases h⟩)
  unfold StepOfG
  split
  · rename_i hw; rw [if_pos hw] at this; exact this
  · rename_i hw; rw [if_neg hw] at this; exact ⟨this.2.1, hb⟩

/-- An operation that yields one value, whatever the world. -/
theorem PlanG.det {R : World → World → Prop} {w0 : World} {n : Nat} {F : (Nat → Value) → Act} {o : Oper} {rest : List Oper} {i : Nat} {φs : List (Nat × ((Nat → Value) → World → Prop))} {fs : List Nat} (i' : Nat) (hi : i + 1 = i') (hrf : ∀ x, R x x)
    (h : ∃ c : Value, (∀ vs w, R w0 w → (∀ (k j : Nat) (φ' : (Nat → Value) → World → Prop), φs[k]? = some (j, φ') → waits ops i j = true → φ' vs w) → ∀ K : Value → World → Prop, (∀ v w', R w w' → v = c → K v w') →
      if Region.wanted o (yielded ops (F vs).tmps) then gives P o (F vs) w K else K undef w) ∧ PlanG P ops Q R w0 n F rest i' ((i, fun vs _ => vs i = c) :: φs) fs) :
    PlanG P ops Q R w0 n F (o :: rest) i φs fs := by
  subst hi
  obtain ⟨c, h1, h2⟩ := h
  refine ⟨fun vs _ => vs i = c, false, ⟨fun _ _ _ _ h => h, fun vs vs' x hv h => by have e := hv i (.inl rfl); dsimp only at h ⊢; rw [← e]; exact h, (fun h => by cases h)⟩, fun vs w hR hF => ?_, h2⟩
  simp only [if_true]
  exact StepOfG.of (hrf w) (h1 vs w hR hF) rfl
/-- An operation that yields a value of which φ holds, then and later. -/
theorem PlanG.rel {R : World → World → Prop} {w0 : World} {n : Nat} {F : (Nat → Value) → Act} {o : Oper} {rest : List Oper} {i : Nat} {φs : List (Nat × ((Nat → Value) → World → Prop))} {fs : List Nat} (i' : Nat) (hi : i + 1 = i') (hrf : ∀ x, R x x) (φ : Value → World → Prop)
    (hφ : ∀ v x y, R x y → φ v x → φ v y) (h1 : ∀ vs w, R w0 w → (∀ (k j : Nat) (φ' : (Nat → Value) → World → Prop), φs[k]? = some (j, φ') → waits ops i j = true → φ' vs w) → ∀ K : Value → World → Prop, (∀ v w', R w w' → φ v w' → K v w') →
      if Region.wanted o (yielded ops (F vs).tmps) then gives P o (F vs) w K else K undef w) (h2 : PlanG P ops Q R w0 n F rest i' ((i, fun vs x => φ (vs i) x) :: φs) fs) :
    PlanG P ops Q R w0 n F (o :: rest) i φs fs := by
  subst hi
  refine ⟨fun vs x => φ (vs i) x, false, ⟨fun vs x y hR h => hφ _ x y hR h, fun vs vs' x hv h => by have e := hv i (.inl rfl); dsimp only at h ⊢; rw [← e]; exact h, (fun h => by cases h)⟩, fun vs w hR hF => ?_, h2⟩
  simp only [if_true]
  exact StepOfG.of (hrf w) (h1 vs w hR hF) rfl
/-- An operation that makes a variable. -/
theorem PlanG.born {R : World → World → Prop} {w0 : World} {n : Nat} {F : (Nat → Value) → Act} {o : Oper} {rest : List Oper} {i : Nat} {φs : List (Nat × ((Nat → Value) → World → Prop))} {fs : List Nat} (i' : Nat) (hi : i + 1 = i') (hgd : o.guard = none) (φ : Value → World → Prop)
    (hφ : ∀ v x y, R x y → φ v x → φ v y) (hne : ∀ v x, φ v x → v ≠ .pointer (some ⟨x.heap.size, 0, none⟩)) (h1 : ∀ vs w, R w0 w → ∀ K : Value → World → Prop, (∀ v w', R w w' → φ v w' → v = .pointer (some ⟨w.heap.size, 0, none⟩) → K v w') → gives P o (F vs) w K)
    (h2 : PlanG P ops Q R w0 n F rest i' ((i, fun vs x => φ (vs i) x) :: φs) (i :: fs)) :
    PlanG P ops Q R w0 n F (o :: rest) i φs fs := by
  subst hi
  refine ⟨fun vs x => φ (vs i) x, true, ⟨fun vs x y hR h => hφ _ x y hR h, fun vs vs' x hv h => by have e := hv i (.inl rfl); dsimp only at h ⊢; rw [← e]; exact h, fun _ vs x h => hne _ x h⟩, fun vs w hR hF => ?_, h2⟩
  simp only [if_true]
  unfold StepOfG
  have hw : Region.wanted o (yielded ops (F vs).tmps) = true := by unfold Region.wanted; rw [hgd]
  rw [if_pos hw]
  exact h1 vs w hR _ fun v w' h1 h2 h3 => ⟨h1, h2, fun _ => h3⟩
/-- An operation behind which something is known of its value and of those for which it waits. -/
theorem PlanG.link {R : World → World → Prop} {w0 : World} {n : Nat} {F : (Nat → Value) → Act} {o : Oper} {rest : List Oper} {i : Nat} {φs : List (Nat × ((Nat → Value) → World → Prop))} {fs : List Nat} (i' : Nat) (hi : i + 1 = i') (hrf : ∀ x, R x x) (φ : (Nat → Value) → World → Prop)
    (hφ : ∀ vs x y, R x y → φ vs x → φ vs y) (hloc : ∀ vs vs' x, (∀ k, k = i ∨ waits ops i k = true → vs k = vs' k) → φ vs x → φ vs' x) (hnv : ∀ vs v x, φ vs x → φ (fun j => if j = i then v else vs j) x)
    (h1 : ∀ vs w, R w0 w → (∀ (k j : Nat) (φ' : (Nat → Value) → World → Prop), φs[k]? = some (j, φ') → waits ops i j = true → φ' vs w) → ∀ K : Value → World → Prop, (∀ v w', R w w' → φ vs w' → K v w') →
      if Region.wanted o (yielded ops (F vs).tmps) then gives P o (F vs) w K else K undef w) (h2 : PlanG P ops Q R w0 n F rest i' ((i, φ) :: φs) fs) :
    PlanG P ops Q R w0 n F (o :: rest) i φs fs := by
  subst hi
  exact ⟨φ, false, ⟨hφ, hloc, (fun h => by cases h)⟩, fun vs w hR hF => StepOfG.of (hrf w) (fun K hK => h1 vs w hR hF K fun v w' hR' h => hK v w' hR' (hnv vs v w' h)) rfl, h2⟩
theorem PlanG.nil {R : World → World → Prop} {w0 : World} {n : Nat} {F : (Nat → Value) → Act} {i : Nat} {φs : List (Nat × ((Nat → Value) → World → Prop))} {fs : List Nat}
    (h : ∀ vs w, R w0 w → (∀ (k j : Nat) (φ : (Nat → Value) → World → Prop), φs[k]? = some (j, φ) → φ vs w) → (∀ i j, i ∈ fs → j ∈ fs → i ≠ j → vs i ≠ vs j) → wpList P ops Q (ops.toList.drop n) (F vs) w) : PlanG P ops Q R w0 n F [] i φs fs := h
attribute [irreducible] PlanG
end

/-- Of the blocks that were there, those from N on that held z may hold y. -/
structure SpR (N : Nat) (z y : List Value) (T : TypeId) (a b : World) : Prop where
  os : b.os = a.os
  tape : b.tape = a.tape
  output : b.output = a.output
  size : a.heap.size ≤ b.heap.size
  block : ∀ k, k < a.heap.size → b.heap[k]? = a.heap[k]? ∨ (N ≤ k ∧ Row a k z T ∧ Row b k y T)
theorem SpR.refl {N : Nat} {z y : List Value} {T : TypeId} (a : World) : SpR N z y T a a := ⟨rfl, rfl, rfl, Nat.le_refl _, fun _ _ => .inl rfl⟩
theorem SpR.trans {N : Nat} {z y : List Value} {T : TypeId} {a b c : World} (h : SpR N z y T a b) (g : SpR N z y T b c) : SpR N z y T a c := by
  refine ⟨g.os.trans h.os, g.tape.trans h.tape, g.output.trans h.output, Nat.le_trans h.size g.size, fun k hk => ?_⟩
  rcases h.block k hk with h1 | ⟨h1, h2, h3⟩ <;> rcases g.block k (Nat.lt_of_lt_of_le hk h.size) with g1 | ⟨g1, g2, g3⟩
  · exact .inl (g1.trans h1)
  · exact .inr ⟨g1, by unfold Row at *; rw [← h1]; exact g2, g3⟩
  · exact .inr ⟨h1, h2, by unfold Row at *; rw [g1]; exact h3⟩
  · exact .inr ⟨h1, h2, g3⟩
theorem SpR.below {N : Nat} {z y : List Value} {T : TypeId} {a b : World} (h : SpR N z y T a b) (hN : N ≤ a.heap.size) : Below N a b :=
  ⟨h.os, h.tape, h.output, h.size, fun k hk => (h.block k (Nat.lt_of_lt_of_le hk hN)).resolve_right fun g => absurd g.1 (by omega)⟩
theorem SpR.alloc {N : Nat} {z y : List Value} {T : TypeId} (a : World) (o : Obj) : SpR N z y T a (a.alloc o) := ⟨rfl, rfl, rfl, by simp, fun k hk => .inl (Below.heap_alloc _ _ _ hk)⟩
/-- A row that holds the one or the other. -/
def RowOr (x : World) (b : Nat) (z y : List Value) (T : TypeId) : Prop := Row x b z T ∨ Row x b y T
theorem RowOr.lt {x : World} {b : Nat} {z y : List Value} {T : TypeId} (h : RowOr x b z y T) : b < x.heap.size := h.elim Row.lt Row.lt
theorem SpR.row {N : Nat} {z y : List Value} {T : TypeId} {a b : World} (h : SpR N z y T a b) {k : Nat} (hr : Row a k y T) : Row b k y T := by
  rcases h.block k hr.lt with g | ⟨-, -, g⟩
  · exact g.trans hr
  · exact g
theorem SpR.rowOr {N : Nat} {z y : List Value} {T : TypeId} {a b : World} (h : SpR N z y T a b) {k : Nat} (hr : RowOr a k z y T) : RowOr b k z y T := by
  rcases h.block k hr.lt with g | ⟨-, -, g⟩
  · rcases hr with hr | hr
    · exact .inl (g.trans hr)
    · exact .inr (g.trans hr)
  · exact .inr g
theorem RowOr.c2 {x : World} {b : Nat} {z0 z1 y0 y1 : Value} {T : TypeId} (h : RowOr x b [z0, z1] [y0, y1] T) : (x.frozen? ⟨b, 0, none⟩ = false ∧ x.frozen? ⟨b, 1, none⟩ = false) ∧ ∃ u0 u1, x.cell? ⟨b, 0, none⟩ = some u0 ∧ x.cell? ⟨b, 1, none⟩ = some u1 := by
  rcases h with h | h
  · exact ⟨⟨h.free 0, h.free 1⟩, z0, z1, h.cell 0, h.cell 1⟩
  · exact ⟨⟨h.free 0, h.free 1⟩, y0, y1, h.cell 0, h.cell 1⟩
theorem RowOr.put {x : World} {b : Nat} {z0 z1 y0 y1 : Value} {T : TypeId} (h : RowOr x b [z0, z1] [y0, y1] T) (u0 u1 : Value) : Row ((x.setCell ⟨b, 0, none⟩ u0).setCell ⟨b, 1, none⟩ u1) b [u0, u1] T := by
  rcases h with h | h
  · exact (h.set 0 u0).set 1 u1
  · exact (h.set 0 u0).set 1 u1
theorem SpR.store {N : Nat} {z0 z1 y0 y1 : Value} {T : TypeId} {x : World} {b : Nat} (h : RowOr x b [z0, z1] [y0, y1] T) (hN : N ≤ b) : SpR N [z0, z1] [y0, y1] T x ((x.setCell ⟨b, 0, none⟩ y0).setCell ⟨b, 1, none⟩ y1) := by
  refine ⟨rfl, rfl, rfl, by simp [World.setCell], fun k hk => ?_⟩
  by_cases hkb : k = b
  · subst hkb
    rcases h with h | h
    · exact .inr ⟨hN, h, (h.set 0 _).set 1 _⟩
    · exact .inl (((h.set 0 y0).set 1 y1).trans h.symm)
  · exact .inl ((Below.heap_setCell _ _ _ _ hkb).trans (Below.heap_setCell _ _ _ _ hkb))
theorem SpR.under {N : Nat} {z y : List Value} {T : TypeId} {a b : World} (h : SpR N z y T a.drew b) (hN : N = a.heap.size) : Below N a b :=
  ⟨h.os, h.tape, h.output, h.size, fun k hk => (h.block k (by have : a.drew.heap.size = a.heap.size := rfl; omega)).resolve_right fun g => absurd g.1 (by omega)⟩
end Go.Proofs.YtkinnfejgpnddaaDoor

/- Alternatives and sequences of two trees without groups, plainly. -/
namespace Go.Proofs.YtkinnfejgpnddaaDoor
open Go.RowKit

/-- The ends of what Parses hands out. -/
def endsR (r : List Parse × Int) : List Nat := r.1.map Prod.fst
theorem endsR_mem {r : List Parse × Int} {j : Nat} : j ∈ endsR r ↔ Has r.1 j := by unfold endsR Has; rw [List.mem_map]
theorem bin_alt {s : List UInt8} {lines : Bool} {a b : Re} {i j : Nat} : (bin 4 a b).E s lines i j ↔ a.E s lines i j ∨ b.E s lines i j := by
  unfold bin
  rw [Re.E]
  simp [Re.EAlt]
theorem bin_cat {s : List UInt8} {lines : Bool} {a b : Re} {i j : Nat} : (bin 3 a b).E s lines i j ↔ ∃ k, a.E s lines i k ∧ b.E s lines k j := by
  unfold bin
  rw [Re.E]
  simp [Re.ECat]
/-- The law of composing. -/
theorem composes_law {a b : Re} {s : ByteArray} {at_ : Int} {lines : Bool} (ha : a.err = 0) (hb : b.err = 0) (ga : a.groups = 0) (gb : b.groups = 0) (sa : a.size ≤ 8) (sb : b.size ≤ 8) (hs : s.size ≤ 12) :
    ((parsesR a s at_ lines = ([], 2) ∧ parsesR b s at_ lines = ([], 2)) ∧ parsesR (bin 4 a b) s at_ lines = ([], 2) ∧ parsesR (bin 3 a b) s at_ lines = ([], 2)) ∨
    (((parsesR a s at_ lines).2 = 0 ∧ (parsesR b s at_ lines).2 = 0) ∧ ((parsesR (bin 4 a b) s at_ lines).2 = 0 ∧ (parsesR (bin 3 a b) s at_ lines).2 = 0) ∧
      (∀ j, j ∈ endsR (parsesR (bin 4 a b) s at_ lines) ↔ j ∈ endsR (parsesR a s at_ lines) ∨ j ∈ endsR (parsesR b s at_ lines)) ∧
      (∀ q, q ∈ (parsesR a s at_ lines).1 → (parsesR b s q.1 lines).2 = 0) ∧
      (∀ j, j ∈ endsR (parsesR (bin 3 a b) s at_ lines) ↔ ∃ q, q ∈ (parsesR a s at_ lines).1 ∧ j ∈ endsR (parsesR b s q.1 lines))) := by
  obtain ⟨h3, g3, -⟩ := bin_ok (op := 3) (.inl rfl) ha hb ga gb sa sb
  obtain ⟨h4, g4, -⟩ := bin_ok (op := 4) (.inr rfl) ha hb ga gb sa sb
  by_cases hat : at_ < 0 ∨ (s.size : Int) < at_
  · left
    have hc : ∀ t : Re, t.err = 0 → parsesR t s at_ lines = ([], 2) := fun t ht => by
      have : chk t s at_ = 2 := by unfold chk; rw [if_neg (by simp [ht]), if_pos hat]
      unfold parsesR
      rw [this]
      rfl
    exact ⟨⟨hc a ha, hc b hb⟩, hc _ h4, hc _ h3⟩
  · right
    have hck : ∀ (t : Re) (x : Int), t.err = 0 → 0 ≤ x → x ≤ s.size → chk t s x = 0 := fun t x ht h1 h2 => by
      unfold chk; rw [if_neg (by simp [ht]), if_neg (by omega)]
    obtain ⟨a1, a2⟩ := parsesR_flat (lines := lines) (hck a at_ ha (by omega) (by omega)) ga (by omega)
    obtain ⟨b1, b2⟩ := parsesR_flat (lines := lines) (hck b at_ hb (by omega) (by omega)) gb (by omega)
    obtain ⟨c1, c2⟩ := parsesR_flat (lines := lines) (hck (bin 3 a b) at_ h3 (by omega) (by omega)) g3 (by omega)
    obtain ⟨d1, d2⟩ := parsesR_flat (lines := lines) (hck (bin 4 a b) at_ h4 (by omega) (by omega)) g4 (by omega)
    have hle : ∀ q, q ∈ (parsesR a s at_ lines).1 → q.1 ≤ s.size := fun q hq => (parsesR_ok.1 q hq).2.1
    have hb2 : ∀ k : Nat, k ≤ s.size → (parsesR b s k lines).2 = 0 ∧ ∀ j, Has (parsesR b s k lines).1 j ↔ b.E s.data.toList lines k j := fun k hk => by
      have := parsesR_flat (lines := lines) (hck b (k : Int) hb (by omega) (by omega)) gb (by omega)
      exact this
    refine ⟨⟨a1, b1⟩, ⟨d1, c1⟩, fun j => ?_, fun q hq => (hb2 q.1 (hle q hq)).1, fun j => ?_⟩
    · rw [endsR_mem, endsR_mem, endsR_mem, d2, a2, b2, bin_alt]
    · rw [endsR_mem, c2, bin_cat]
      constructor
      · rintro ⟨k, h1, h2⟩
        obtain ⟨q, hq, rfl⟩ := (a2 k).2 h1
        exact ⟨q, hq, endsR_mem.2 (((hb2 q.1 (hle q hq)).2 j).2 h2)⟩
      · rintro ⟨q, hq, h2⟩
        exact ⟨q.1, (a2 q.1).1 ⟨q, hq, rfl⟩, ((hb2 q.1 (hle q hq)).2 j).1 (endsR_mem.1 h2)⟩
end Go.Proofs.YtkinnfejgpnddaaDoor
