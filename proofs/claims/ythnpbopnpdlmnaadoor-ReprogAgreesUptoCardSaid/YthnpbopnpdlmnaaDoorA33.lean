/- A region that draws its order and holds one call that panics: what comes before it in whatever order reads or grows; what waits for it never runs. Nothing here speaks of the program. -/
import Derived.Test.YthnpbopnpdlmnaaDoorA31
import Derived.Test.YthnpbopnpdlmnaaDoorA32
import Derived.Deep.Cut
namespace Go.Proofs.YthnpbopnpdlmnaaDoor
open Go.RowKit

section
variable {P : Program} {ops : Array Oper} {Q : Exit → Act → World → Prop}

def planP (ops : Array Oper) (n m : Nat) : Bool :=
  decide (n < ops.size) &&
  ((List.range ops.size).all fun i => (List.range ops.size).all fun j => decide (i = j) || (dstOf ops i).isNone || decide (dstOf ops i ≠ dstOf ops j)) &&
  ((List.range ops.size).all fun i => match dstOf ops i with | some d => decide (d < m) | none => true) &&
  (match ops[n]? with | some o => o.guard.isNone | none => false) &&
  ((List.range ops.size).all fun t => decide (t ≤ n) || (List.range t).any fun j => decide (n ≤ j) && waits ops t j) &&
  ((List.range ops.size).all fun t => match ops[t]? with | some o => o.after.all fun e => !Region.binds .any e || decide (e.on < t) | none => true)
theorem planP_B {n m : Nat} (h : planP ops n m = true) : planB ops ops.size m = true := by
  simp only [planP, Bool.and_eq_true, decide_eq_true_eq] at h
  obtain ⟨⟨⟨⟨⟨h1, h2⟩, h3⟩, h4⟩, h5⟩, h6⟩ := h
  simp only [planB, Bool.and_eq_true, Bool.or_eq_true, decide_eq_true_eq]
  refine ⟨⟨⟨⟨⟨Nat.le_refl _, h2⟩, h3⟩, .inl trivial⟩, ?_⟩, h6⟩
  exact List.all_eq_true.2 fun t ht => by
    have := List.mem_range.1 ht
    simp; left; omega

def givesUponP (P : Program) (K : List PanicEntry → World → Prop) : Result Next → Prop
  | .ok (.enter f args) w' => Calls P f args w' fun e w'' => ∃ c, e = .panicked c ∧ K c w''
  | .halt (.panic v) w' => K [{ v, recovered := false }] w'
  | _ => False
def givesPan (P : Program) (o : Oper) (a : Act) (w : World) (K : List PanicEntry → World → Prop) : Prop := givesUponP P K ((execOp a.eval o).run P w)
theorem givesPan.wp {o : Oper} {a : Act} {w : World} {K : List PanicEntry → World → Prop} {K' : Act → World → Prop} (h : givesPan P o a w K) (hk : ∀ c w', K c w' → Q (.panic c) a w') : o.wp P a w K' Q := by
  unfold givesPan at h
  unfold Oper.wp
  generalize (execOp a.eval o).run P w = r at *
  cases r with
  | ok n w' =>
    cases n <;> simp only [givesUponP] at h <;> simp only [Oper.upon]
    case enter f args => exact h.mono fun e w'' ⟨c, he, hK⟩ => by subst he; exact hk _ _ hK
  | halt x w' =>
    cases x <;> simp only [givesUponP] at h
    exact hk _ _ h

theorem inv_pan {n m : Nat} {R : World → World → Prop} {w0 : World} {a0 : Act} {φ : Nat → Value → World → Prop} (htr : ∀ x y z, R x y → R y z → R x z) (hrf : ∀ x, R x x) (hφ : ∀ i v x y, R x y → φ i v x → φ i v y)
    (hB : planP ops n m = true)
    (hop : ∀ i o, i < n → ops[i]? = some o → ∀ vs w, R w0 w → (∀ j, j < n → waits ops i j = true → φ j (vs j) w) → StepOf P ops R (φ i) o (fill ops vs n a0) w)
    (hpan : ∀ o, ops[n]? = some o → ∀ vs w, R w0 w → (∀ j, j < n → waits ops n j = true → φ j (vs j) w) → givesPan P o (fill ops vs n a0) w fun c w' => ∀ A, A.defers = (fill ops vs n a0).defers → Q (.panic c) A w') :
    ∀ (fuel : Nat) (listed : Array Bool) (a : Act) (w : World), Inv ops n R w0 a0 φ listed a w → left ops listed ≤ fuel → wpAny P .any ops Q fuel listed a w := by
  have hB0 := planP_B hB
  simp only [planP, Bool.and_eq_true, decide_eq_true_eq] at hB
  obtain ⟨⟨⟨⟨⟨hn, hdist⟩, hbnd⟩, hgd⟩, hc⟩, _⟩ := hB
  have hdist' : ∀ i j, i < n → j < n → j ≠ i → dstOf ops i = none ∨ dstOf ops i ≠ dstOf ops j := by
    intro i j hi hj hne
    have h1 := List.all_eq_true.1 (List.all_eq_true.1 hdist i (List.mem_range.2 (by omega))) j (List.mem_range.2 (by omega))
    simp only [Bool.or_eq_true, decide_eq_true_eq, Option.isNone_iff_eq_none] at h1
    rcases h1 with (h1 | h1) | h1
    · omega
    · exact .inl h1
    · exact .inr h1
  intro fuel
  induction fuel with
  | zero =>
    intro listed a w inv hl
    exfalso
    have : 0 < left ops listed := by
      unfold left
      refine List.countP_pos_iff.2 ⟨n, List.mem_range.2 hn, ?_⟩
      rw [inv.tail n (Nat.le_refl _) hn]; rfl
    omega
  | succ fuel ih =>
    intro listed a w inv hl
    refine ⟨fun h0 => absurd h0 (least_ready hB0 inv.size (i := n) hn (inv.tail n (Nat.le_refl _) hn)), fun i hi => ?_⟩
    have hleft := left_set hi
    obtain ⟨hun, o, ho, hall⟩ := mem_ready.1 hi
    have hlt : i < ops.size := (Array.getElem?_eq_some_iff.1 ho).1
    obtain ⟨vs, rfl, hv⟩ := inv.facts
    have hdeps : ∀ j, j < n → waits ops i j = true → φ j (vs j) w := by
      intro j hjn hw
      obtain ⟨o', ho', e, he, hb, hon⟩ := waits_spec hw
      have : o' = o := Option.some.inj (ho'.symm.trans ho)
      subst this
      have h3 := hall e he hb
      rw [hon] at h3
      exact hv j hjn h3
    rcases Nat.lt_trichotomy i n with hin | hin | hin
    · have hst := hop i o hin ho vs w inv.above hdeps
      have hd0 : dstOf ops i = o.dst := by simp [dstOf, ho]
      have hnext : ∀ u w', R w w' → φ i u w' → wpAny P .any ops Q fuel (listed.setIfInBounds i true) ((fill ops vs n a0).put o.dst u) w' := by
        intro u w' hR hu
        refine ih _ _ _ ⟨by simp [inv.size], fun j oj hoj hlj e he hb => ?_, fun t ht ht' => by rw [getD_set_ne true (by omega)]; exact inv.tail t ht ht', htr _ _ _ inv.above hR, ⟨fun j => if j = i then u else vs j, ?_, fun j hjn hlj => ?_⟩⟩ (by omega)
        · by_cases hij : i = j
          · subst hij
            have : oj = o := Option.some.inj (hoj.symm.trans ho)
            subst this
            exact getD_set_true (hall e he hb)
          · rw [getD_set_ne false hij] at hlj
            exact getD_set_true (inv.closed j oj hoj hlj e he hb)
        · rw [← hd0]
          exact fill_set vs a0 i u n (fun j hj hne => hdist' i j hin hj hne) hin
        · by_cases hij : j = i
          · subst hij; simpa using hu
          · simp only [hij, if_false]
            rw [getD_set_ne false (Ne.symm hij)] at hlj
            exact hφ j _ _ _ hR (hv j hjn hlj)
      unfold wpOp
      rw [ho]
      show if Region.wanted o (yielded ops (fill ops vs n a0).tmps) = true then _ else _
      unfold StepOf at hst
      split
      · rename_i hw
        rw [if_pos hw] at hst
        exact .inl (hst.wp fun v w' ⟨h1, h2⟩ => hnext v w' h1 h2)
      · rename_i hw
        rw [if_neg hw] at hst
        exact hnext undef w (hrf w) hst
    · subst hin
      have hg : o.guard = none := by
        rw [ho] at hgd
        simpa using hgd
      have hw : Region.wanted o (yielded ops (fill ops vs i a0).tmps) = true := by simp [Region.wanted, hg]
      unfold wpOp
      rw [ho]
      show if Region.wanted o (yielded ops (fill ops vs i a0).tmps) = true then _ else _
      rw [if_pos hw]
      exact .inl ((hpan o ho vs w inv.above hdeps).wp fun c w' h => h _ rfl)
    · exfalso
      have h1 := List.all_eq_true.1 hc i (List.mem_range.2 hlt)
      simp only [Bool.or_eq_true, decide_eq_true_eq] at h1
      rcases h1 with h1 | h1
      · omega
      · obtain ⟨j, hj, hj2⟩ := List.any_eq_true.1 h1
        simp only [Bool.and_eq_true, decide_eq_true_eq] at hj2
        have hjt := List.mem_range.1 hj
        obtain ⟨o', ho', e, he, hb, hon⟩ := waits_spec hj2.2
        have : o' = o := Option.some.inj (ho'.symm.trans ho)
        subst this
        have h2 := hall e he hb
        rw [hon, bothD (inv.tail j hj2.1 (by omega))] at h2
        cases h2

def PlanP (P : Program) (ops : Array Oper) (R : World → World → Prop) (w0 : World) (n : Nat) (F : (Nat → Value) → Act) (C : Act → World → Prop) : List Oper → Nat → List (Nat × (Value → World → Prop)) → Prop
  | [], _, φs => ∀ vs w, R w0 w → (∀ (k j : Nat) (φ : Value → World → Prop), φs[k]? = some (j, φ) → waits ops n j = true → φ (vs j) w) → C (F vs) w
  | o :: rest, i, φs => ∃ φ : Value → World → Prop, (∀ v x y, R x y → φ v x → φ v y) ∧
      (∀ vs w, R w0 w → (∀ (k j : Nat) (φ' : Value → World → Prop), φs[k]? = some (j, φ') → waits ops i j = true → φ' (vs j) w) → StepOf P ops R φ o (F vs) w) ∧ PlanP P ops R w0 n F C rest (i + 1) ((i, φ) :: φs)

theorem PlanP.spec {R : World → World → Prop} {w0 : World} {n : Nat} {F : (Nat → Value) → Act} {C : Act → World → Prop} : ∀ (l : List Oper) (i : Nat) (φs : List (Nat × (Value → World → Prop))) (pre : List (Value → World → Prop)), PlanP P ops R w0 n F C l i φs → pre.length = i →
    (∀ (j : Nat) (φ : Value → World → Prop), (j, φ) ∈ φs → pre[j]? = some φ) → (∀ (φ : Value → World → Prop), φ ∈ pre → ∀ v x y, R x y → φ v x → φ v y) →
    ∃ full : List (Value → World → Prop), full.length = i + l.length ∧ (∀ (j : Nat) (φ : Value → World → Prop), pre[j]? = some φ → full[j]? = some φ) ∧ (∀ (φ : Value → World → Prop), φ ∈ full → ∀ v x y, R x y → φ v x → φ v y) ∧
      (∀ (k : Nat) (o : Oper) (φ : Value → World → Prop), l[k]? = some o → full[i + k]? = some φ → ∀ vs w, R w0 w → (∀ (j : Nat) (φ' : Value → World → Prop), j < i + k → full[j]? = some φ' → waits ops (i + k) j = true → φ' (vs j) w) → StepOf P ops R φ o (F vs) w) ∧
      (∀ vs w, R w0 w → (∀ (j : Nat) (φ : Value → World → Prop), full[j]? = some φ → waits ops n j = true → φ (vs j) w) → C (F vs) w)
  | [], i, φs, pre, h, hl, hm, hst => ⟨pre, by simpa using hl, fun _ _ h => h, hst, fun k o φ hk => by simp at hk, fun vs w hR hF => h vs w hR fun k j φ hk hw => hF j φ (hm j φ (List.mem_of_getElem? hk)) hw⟩
  | o :: rest, i, φs, pre, h, hl, hm, hst => by
    obtain ⟨φ, h1, h2, h3⟩ := h
    obtain ⟨full, f1, f2, f3, f4, f5⟩ := PlanP.spec rest (i + 1) ((i, φ) :: φs) (pre ++ [φ]) h3 (by simp [hl]) (fun j φ' hj => by
      rcases List.mem_cons.1 hj with hj | hj
      · simp only [Prod.mk.injEq] at hj
        obtain ⟨rfl, rfl⟩ := hj
        rw [List.getElem?_append_right (by omega)]; simp [hl]
      · have := hm j φ' hj
        have hjl : j < pre.length := (List.getElem?_eq_some_iff.1 this).1
        rw [List.getElem?_append_left hjl]; exact this) (fun φ' hm => by
      rcases List.mem_append.1 hm with hm | hm
      · exact hst φ' hm
      · rw [List.mem_singleton.1 hm]; exact h1)
    refine ⟨full, by simp only [List.length_cons]; omega, fun j φ' hj => f2 j φ' (by
      have : j < pre.length := (List.getElem?_eq_some_iff.1 hj).1
      rw [List.getElem?_append_left this]; exact hj), f3, fun k o' φ' hk hf => ?_, f5⟩
    cases k with
    | zero =>
      simp at hk
      subst hk
      have hφ : full[i]? = some φ := f2 i φ (by rw [List.getElem?_append_right (by omega)]; simp [hl])
      rw [Nat.add_zero, hφ] at hf
      obtain rfl := Option.some.inj hf
      intro vs w hR hF
      refine h2 vs w hR fun k j φ' hk hw => ?_
      have hj := hm j φ' (List.mem_of_getElem? hk)
      have hjl : j < pre.length := (List.getElem?_eq_some_iff.1 hj).1
      exact hF j φ' (by omega) (f2 j φ' (by rw [List.getElem?_append_left hjl]; exact hj)) hw
    | succ k =>
      have := f4 k o' φ' (by simpa using hk) (by rw [show i + 1 + k = i + (k + 1) by omega]; exact hf)
      rw [show i + 1 + k = i + (k + 1) by omega] at this
      exact this

theorem defers_put (a : Act) (d : Option Tmp) (v : Value) : (a.put d v).defers = a.defers := by cases d <;> rfl
theorem defers_fill (vs : Nat → Value) (a : Act) : ∀ n, (fill ops vs n a).defers = a.defers
  | 0 => rfl
  | n + 1 => by rw [fill, defers_put, defers_fill vs a n]

def CallPn (P : Program) (l : List Oper) (Q : Exit → Act → World → Prop) (n : Nat) (ds : List Deferred) (A : Act) (x : World) : Prop :=
  ∀ o, l[n]? = some o → ∀ K : List PanicEntry → World → Prop, (∀ c x', (∀ A : Act, A.defers = ds → Q (.panic c) A x') → K c x') → givesPan P o A x K
theorem wp_region_pan {id : Nat} {a : Act} {w : World} {l : List Oper} (n : Nat) (R : World → World → Prop) (hm : P.follows .mixedOrders = true) (hB : planP l.toArray n a.tmps.size = true)
    (hrf : ∀ x, R x x) (htr : ∀ x y z, R x y → R y z → R x z) (h : PlanP P l.toArray R w.drew n (fun vs => fill l.toArray vs n a) (CallPn P l Q n a.defers) (l.take n) 0 []) : (Code.region id l.toArray true).wp P Q a w := by
  obtain ⟨full, f1, f2, f3, f4, f5⟩ := PlanP.spec _ _ _ [] h rfl (fun j φ hm => by cases hm) (fun φ hm => by cases hm)
  have hn : n < l.length := by
    simp only [planP, Bool.and_eq_true, decide_eq_true_eq] at hB
    simpa using hB.1.1.1.1.1
  have hlen : full.length = n := by rw [f1]; simp; omega
  refine wp_region_any hm (inv_pan (R := R) (w0 := w.drew) (a0 := a) (n := n) (φ := fun i => full.getD i (fun _ _ => True)) htr hrf (fun i v x y hR hp => ?_) hB (fun i o hi ho vs x hR hF => ?_) (fun o ho vs x hR hF => ?_) _ _ _ _ ⟨by simp, fun j oj _ hl => (by rw [repD] at hl; cases hl), fun t _ ht => inD (by simpa using ht) (repD _ _), hrf _, ⟨fun j => match dstOf l.toArray j with | some d => a.tmps.getD d undef | none => undef, (fill_self a n).symm, fun j _ hj => (by rw [repD] at hj; cases hj)⟩⟩ ?_)
  · by_cases hi : i < full.length
    · have he : full.getD i (fun _ _ => True) = full[i] := by simp [hi]
      simp only [he] at hp ⊢
      exact f3 _ (List.getElem_mem hi) v x y hR hp
    · have he : full.getD i (fun _ _ => True) = fun _ _ => True := by rw [List.getD_eq_getElem?_getD, List.getElem?_eq_none (by omega)]; rfl
      simp only [he]
  · have he : full[0 + i]? = some (full.getD i (fun _ _ => True)) := by rw [Nat.zero_add]; simp [show i < full.length by omega]
    refine f4 i o _ (by rw [List.getElem?_take]; rw [if_pos hi]; simpa using ho) he vs x hR fun j φ' hj hf hw => ?_
    have := hF j (by omega) (by rw [Nat.zero_add] at hw; exact hw)
    rwa [List.getD_eq_getElem?_getD, hf] at this
  · have hcall := f5 vs x hR fun j φ hj hw => by
      have := hF j (by rw [← hlen]; exact (List.getElem?_eq_some_iff.1 hj).1) hw
      rwa [List.getD_eq_getElem?_getD, hj] at this
    exact hcall o (by simpa using ho) _ (fun c x' h A hA => h A (by rw [hA, defers_fill]))
  · unfold left
    refine Nat.le_trans List.countP_le_length ?_
    simp
theorem PlanP.det {R : World → World → Prop} {w0 : World} {n : Nat} {F : (Nat → Value) → Act} {C : Act → World → Prop} {o : Oper} {rest : List Oper} {i : Nat} {φs : List (Nat × (Value → World → Prop))} (i' : Nat) (hi : i + 1 = i') (hrf : ∀ x, R x x)
    (h : ∃ c : Value, (∀ vs w, R w0 w → (∀ (k j : Nat) (φ' : Value → World → Prop), φs[k]? = some (j, φ') → waits ops i j = true → φ' (vs j) w) → ∀ K : Value → World → Prop, (∀ v w', R w w' → v = c → K v w') →
      if Region.wanted o (yielded ops (F vs).tmps) then gives P o (F vs) w K else K undef w) ∧ PlanP P ops R w0 n F C rest i' ((i, fun v _ => v = c) :: φs)) :
    PlanP P ops R w0 n F C (o :: rest) i φs := by
  subst hi
  obtain ⟨c, h1, h2⟩ := h
  exact ⟨fun v _ => v = c, fun _ _ _ _ h => h, fun vs w hR hF => StepOf.of (hrf w) (h1 vs w hR hF), h2⟩
theorem PlanP.rel {R : World → World → Prop} {w0 : World} {n : Nat} {F : (Nat → Value) → Act} {C : Act → World → Prop} {o : Oper} {rest : List Oper} {i : Nat} {φs : List (Nat × (Value → World → Prop))} (i' : Nat) (hi : i + 1 = i') (hrf : ∀ x, R x x) (φ : Value → World → Prop)
    (hφ : ∀ v x y, R x y → φ v x → φ v y) (h1 : ∀ vs w, R w0 w → (∀ (k j : Nat) (φ' : Value → World → Prop), φs[k]? = some (j, φ') → waits ops i j = true → φ' (vs j) w) → ∀ K : Value → World → Prop, (∀ v w', R w w' → φ v w' → K v w') →
      if Region.wanted o (yielded ops (F vs).tmps) then gives P o (F vs) w K else K undef w) (h2 : PlanP P ops R w0 n F C rest i' ((i, φ) :: φs)) :
    PlanP P ops R w0 n F C (o :: rest) i φs := by
  subst hi
  exact ⟨φ, hφ, fun vs w hR hF => StepOf.of (hrf w) (h1 vs w hR hF), h2⟩
theorem PlanP.nil {R : World → World → Prop} {w0 : World} {n : Nat} {F : (Nat → Value) → Act} {C : Act → World → Prop} {i : Nat} {φs : List (Nat × (Value → World → Prop))}
    (h : ∀ vs w, R w0 w → (∀ (k j : Nat) (φ : Value → World → Prop), φs[k]? = some (j, φ) → waits ops n j = true → φ (vs j) w) → C (F vs) w) : PlanP P ops R w0 n F C [] i φs := h
attribute [irreducible] PlanP
end
end Go.Proofs.YthnpbopnpdlmnaaDoor

/- The program of layer 9: parses of a group. -/
namespace Go.Proofs.YthnpbopnpdlmnaaDoor
open Go.RowKit
attribute [local go_sem] gives givesUpon givesPan givesUponP

theorem OutPost.ps {OB : Nat} {ov ov' : Value} {l0 l : List Parse} {w w' : World} (h : OutPost OB ov w ov' l w') (h0 : OutV OB ov l0 w) {v : Value} {m : List Parse} (hs : PsQ (fun b => ov.ownBlock ≠ some b) w v m) : PsQ (fun b => ov'.ownBlock ≠ some b) w' v m :=
  hs.of (fun b cs hr => hr.but h.2.1 (fun hm => by
    rcases List.mem_cons.1 hm with rfl | hm
    · exact absurd (hr.typed h0.1) (by decide)
    · obtain ⟨cs', hr'⟩ := h0.2.row (mem_blk.1 hm)
      exact absurd (hr.typed hr') (by decide))) fun b cs hp hr => ⟨hr.but h.2.1 (fun hm => by
    rcases List.mem_cons.1 hm with rfl | hm
    · exact absurd (hr.typed h0.1) (by decide)
    · exact hp (mem_blk.1 hm)), fun e => by
      rcases h.2.2 b e with h1 | h1
      · exact hp h1
      · have := hr.lt; omega⟩
set_option maxRecDepth 100000 in
set_option maxHeartbeats 32000000 in
theorem ppar6 (wb : World) (N : Nat) (hN : N ≤ 9) (s : ByteArray) (hs : s.size ≤ 1000000) (lines : Bool) (p : Pay) (x0 : Re) (hop : p.op = 6) (HX0 : PPar wb N s lines x0) : PPar wb N s lines (.mk p [x0]) := by
  intro w cs M sa sc sp i hIn hok hsz hbw hM hsp hspo hi ht
  rw [Re.In] at hIn
  obtain ⟨ad, cap, rfl, hwf, -, -, -, hall⟩ := hIn
  obtain ⟨bb, o, cs0, hq1, hq2, hq3⟩ := hall.get 0 x0 (by simp)
  subst hq1
  simp only [Pay.cells]
  have hP : PAt w M s lines [.int .i64 p.op, .int .u64 p.set.a, .int .u64 p.set.b, .int .u64 p.set.c, .int .u64 p.set.d, .int .i64 p.lo, .int .i64 p.hi, .int .i64 p.gr, .slice (some ⟨bb, o, none⟩) 1 cap] (.int .i64 i) (.slice sa sp.length sc) (((w.alloc (.cells #[.int .i64 p.op, .int .u64 p.set.a, .int .u64 p.set.b, .int .u64 p.set.c, .int .u64 p.set.d, .int .i64 p.lo, .int .i64 p.hi, .int .i64 p.gr, .slice (some ⟨bb, o, none⟩) 1 cap] 28)).alloc (.cells #[.int .i64 i, .slice sa sp.length sc] 71)).alloc (.cells #[.slice none 0 0] 39)) := ⟨((Row.new rfl).alloc _).alloc _, (Row.new (by simp)).alloc _, ((hM.alloc _).alloc _).alloc _, (((Below.refl _ _).alloc (Nat.le_refl _) _).alloc (by simp) _).alloc (by simp; omega) _⟩
  have hO : OutV (w.heap.size + 2) (.slice none 0 0) [] (((w.alloc (.cells #[.int .i64 p.op, .int .u64 p.set.a, .int .u64 p.set.b, .int .u64 p.set.c, .int .u64 p.set.d, .int .i64 p.lo, .int .i64 p.hi, .int .i64 p.gr, .slice (some ⟨bb, o, none⟩) 1 cap] 28)).alloc (.cells #[.int .i64 i, .slice sa sp.length sc] 71)).alloc (.cells #[.slice none 0 0] 39)) := ⟨Row.new (by simp), OwnP.nil _ _⟩
  have hk := hall.kid (hbw.trans (hP.2.2.2.mono hbw.size)) 0 (by simp)
  obtain ⟨bb', o', p', ad', n', cap', e', HXC, HXI, hbb⟩ := hk
  injection e' with e'
  injection e' with e1 e2
  subst e1; subst e2
  have q0 := hP.1.c9
  have q1 := hP.2.2.1.two9
  have HP := hid (⟨hP, hO⟩ : _ ∧ _)
  have HT := hid ht
  have HSP := hid (⟨hsp, hspo⟩ : _ ∧ _)
  have HO := hid hop
  have HMW := hid hM.lt
  have hsl : s.data.toList.length = s.size := by rw [Array.length_toList]; rfl
  have HSL := hid hsl
  have hok2 := hok
  rw [Re.ok, Re.oks] at hok2
  have hgr := hok2.2.2.2.1 (.inl hop)
  have hok0 := hok2.2.2.2.2.1
  have hszz : x0.size ≤ 20 := by rw [Re.size_mk] at hsz; have h1 : Re.sizes [x0] = x0.size + 0 := rfl; omega
  have HPA : Hid (parses s.data.toList lines (.mk p [x0]) i sp = (parses s.data.toList lines x0 i sp).bind fun l => fin s.size (l.map (fun q : Parse => ((q.1, q.2.set (p.gr.toNat - 1) ((i : Int), (q.1 : Int))) : Parse)))) := by
    show _ = _; rw [parses]; simp only [hop, firstP, hsl]; rfl
  have hlen0 := fun l (h : parses s.data.toList lines x0 i sp = some l) => parses_len hok0 (by rw [hsl]; exact hi) (by rw [hsl]; exact hspo) h
  have hpok := fun l (h : parses s.data.toList lines x0 i sp = some l) => parses_ok s.data.toList lines N x0 i sp l hok0 (by rw [hsl]; exact hi) (by rw [hsl]; exact hspo) h
  rw [hsl] at hpok
  have hch := HX0 (((w.alloc (.cells #[.int .i64 p.op, .int .u64 p.set.a, .int .u64 p.set.b, .int .u64 p.set.c, .int .u64 p.set.d, .int .i64 p.lo, .int .i64 p.hi, .int .i64 p.gr, .slice (some ⟨bb, o, none⟩) 1 cap] 28)).alloc (.cells #[.int .i64 i, .slice sa sp.length sc] 71)).alloc (.cells #[.slice none 0 0] 39)) _ M sa sc sp i HXI.out hok0 hszz (hbw.trans (hP.2.2.2.mono hbw.size)) hP.2.2.1 (hsp.below hP.2.2.2) hspo hi (ht.on hP.2.2.2)
  obtain ⟨r, hr⟩ : ∃ r, r = parses s.data.toList lines x0 i sp := ⟨_, rfl⟩
  rw [← hr] at HPA hlen0 hpok hch
  have HLEN := hid hlen0
  have HPOK := hid hpok
  have HCH := hid hch
  have hgN : 1 ≤ p.gr.toNat ∧ p.gr.toNat ≤ N := by omega
  have hgi : ((p.gr.toNat : Nat) : Int) = p.gr := by omega
  have HGI := hid hgi
  have hgr9 : 1 ≤ p.gr ∧ p.gr ≤ 9 := by omega
  clear hP hO hok hok2 hsz hbw hM hsp ht hop hsl hgr hok0 hszz hlen0 hpok hch hr hall hwf hgi hspo HX0 hq2 hq3
  have e1 : (p.op == 1) = false := by rw [HO.out]; decide
  have e2 : (p.op == 2) = false := by rw [HO.out]; decide
  have e7 : (p.op == 7) = false := by rw [HO.out]; decide
  have e8 : (p.op == 8) = false := by rw [HO.out]; decide
  have e9 : (p.op == 9) = false := by rw [HO.out]; decide
  have e6 : (p.op == 6) = true := by rw [HO.out]; decide
  go_enter Tryd.func37, Tryd.ntmps37
  go_wp2_with (with_reducible (refine wpList_load_agg rfl 28 _ rfl bb (o + 0 * 9) rfl _ _ HXC.out Tryd.underlying28 rfl (size_re9 _ _ _ _ _ _ _ _ _) ?_))
  refine HCH.out.mono ?_
  rintro e z ⟨hb, hres⟩
  have HZ := hid (⟨HP.out.1.later hb, HP.out.2.below hb, hb.size⟩ : PAt w M s lines [.int .i64 p.op, .int .u64 p.set.a, .int .u64 p.set.b, .int .u64 p.set.c, .int .u64 p.set.d, .int .i64 p.lo, .int .i64 p.hi, .int .i64 p.gr, .slice (some ⟨bb, o, none⟩) 1 cap] (.int .i64 i) (.slice sa sp.length sc) z ∧ OutV _ _ _ z ∧ _)
  clear hb HCH q0 q1
  cases r with
  | none =>
    subst hres
    refine ⟨rfl, ?_⟩
    rw [HPA.out]
    exact ⟨HZ.out.1.2.2.2, rfl⟩
  | some l =>
    obtain ⟨a9, c9, rfl, hps⟩ := hres
    have hl4 := HLEN.out l rfl
    have HPS : Hid (PsQ (fun b => (Value.slice none 0 0).ownBlock ≠ some b) z (.slice a9 l.length c9) l) := hps.mono fun b _ _ => by simp [Value.ownBlock]
    obtain ⟨n, hnn⟩ : ∃ n, n = l.length := ⟨_, rfl⟩
    have HNN := hid hnn
    rw [← hnn] at HPS hl4 ⊢
    have HPK := hid (HPOK.out l rfl)
    have HPA2 : Hid (fin s.size (l.map (fun q : Parse => ((q.1, q.2.set (p.gr.toNat - 1) ((i : Int), (q.1 : Int))) : Parse))) = parses s.data.toList lines (.mk p [x0]) i sp) := HPA.out.symm
    clear hps hnn HLEN HPOK HPA
    have hz3 : w.heap.size + 3 ≤ z.heap.size := by have := HZ.out.2.2; simp at this; omega
    go_wp2_with fail
    go_loopw [153] (fun v153 wr => ∃ (j : Nat) (ov : Value), v153 = .int .i64 j ∧ j ≤ n ∧ Hid (OutV (w.heap.size + 2) ov ((l.take j).map (fun q : Parse => ((q.1, q.2.set (p.gr.toNat - 1) ((i : Int), (q.1 : Int))) : Parse))) wr ∧ PAt w M s lines [.int .i64 p.op, .int .u64 p.set.a, .int .u64 p.set.b, .int .u64 p.set.c, .int .u64 p.set.d, .int .i64 p.lo, .int .i64 p.hi, .int .i64 p.gr, .slice (some ⟨bb, o, none⟩) 1 cap] (.int .i64 i) (.slice sa sp.length sc) wr ∧ PsQ (fun b => ov.ownBlock ≠ some b) wr (.slice a9 n c9) l ∧ w.heap.size + 3 ≤ wr.heap.size)) (fun v153 _ => n - (intOf v153).toNat)
    case atStart => exact ⟨0, _, rfl, Nat.zero_le _, HZ.out.2.1, HZ.out.1, HPS.out, hz3⟩
    case round =>
      obtain ⟨j, ov, rfl, hj, HX⟩ := hrel
      clear HZ HPS hz3
      by_cases hlt : j < n
      · have hltI : (j : Int) < (n : Int) := by omega
        obtain ⟨b, cc, u1, u2, va2, vc2, hq, ev, hbl, hbp, -, p0, p1, hsq⟩ := HX.out.2.2.1.get (k := j) (by have := HNN.out; omega)
        injection ev with e1 e2 e3
        subst e1; subst e3
        clear e2
        have hpk := HPK.out (u1, u2) (List.mem_of_getElem? hq)
        have hul : u2.length = N := hpk.2.2.1
        have HU := hid (⟨hpk, hul⟩ : _ ∧ u2.length = N)
        have HQ := hid hq
        have hal : Below wr.heap.size wr (wr.alloc (.cells #[.int .i64 u1, .slice va2 u2.length vc2] 71)) := (Below.refl _ _).alloc (Nat.le_refl _) _
        have HY := hid (⟨HX.out.1.below hal, HX.out.2.1.later hal, HX.out.2.2.1.below hal, Row.new (w := wr) (cs := [.int .i64 u1, .slice va2 u2.length vc2]) (T := 71) rfl, hsq.below hal, HX.out.2.2.2⟩ : OutV _ _ _ _ ∧ PAt w M s lines [.int .i64 p.op, .int .u64 p.set.a, .int .u64 p.set.b, .int .u64 p.set.c, .int .u64 p.set.d, .int .i64 p.lo, .int .i64 p.hi, .int .i64 p.gr, .slice (some ⟨bb, o, none⟩) 1 cap] (.int .i64 i) (.slice sa sp.length sc) _ ∧ PsQ _ _ _ _ ∧ Row (wr.alloc (.cells #[.int .i64 u1, .slice va2 u2.length vc2] 71)) wr.heap.size _ _ ∧ SpQ _ _ _ ∧ w.heap.size + 3 ≤ wr.heap.size)
        have HC := hid (fun (x : World) (hx : Grow ((wr.alloc (.cells #[.int .i64 u1, .slice va2 u2.length vc2] 71))).drew x) => (⟨(HY.out.2.1.later (grow_below hx)).1.c9, (HY.out.2.2.2.1.grow hx).two9⟩ : _ ∧ _))
        obtain ⟨U, hU⟩ : ∃ U : Spans, U = u2.set (p.gr.toNat - 1) ((i : Int), (u1 : Int)) := ⟨_, rfl⟩
        have hUl : u2.length = U.length := by rw [hU, List.length_set]
        have HWI := hid (fun (x : World) (hx : Grow ((wr.alloc (.cells #[.int .i64 u1, .slice va2 u2.length vc2] 71))).drew x) => (pwith_any x va2 vc2 u2 p.gr.toNat (i : Int) (u1 : Int) (HY.out.2.2.2.2.1.below (grow_below hx)) (by have := HU.out.2; omega) (by have := HU.out.2; omega)).mono (R' := fun e w' => ∃ a c, e = .returned (.slice a U.length c) ∧ Below x.heap.size x w' ∧ SpQ w' (.slice a U.length c) U) fun e w' h => by rw [← hUl, hU]; exact h)
        rw [HGI.out] at HWI
        have HTK : Hid (((l.take j).map (fun q : Parse => ((q.1, q.2.set (p.gr.toNat - 1) ((i : Int), (q.1 : Int))) : Parse))) ++ [((u1, U) : Parse)] = (l.take (j + 1)).map (fun q : Parse => ((q.1, q.2.set (p.gr.toNat - 1) ((i : Int), (q.1 : Int))) : Parse))) := by
          show _ = _; rw [List.take_add_one, HQ.out, hU]; simp
        have HLT : Hid (((l.take j).map (fun q : Parse => ((q.1, q.2.set (p.gr.toNat - 1) ((i : Int), (q.1 : Int))) : Parse))).length ≤ 200000) := by show _ ≤ _; rw [List.length_map, List.length_take]; omega
        clear hq hpk hul hal hsq hbp HX hU hUl
        go_upto_region 22 with fail
        clear p0 p1
        refine wp_region_two 13 14 rfl (Grow) (by kernel_rfl) (by kernel_rfl) (Grow.refl) (fun _ _ _ => Grow.trans) ?_
        simp only [fill, dstOf, Act.put, List.take_succ_cons, List.take_zero, List.getElem?_toArray, List.getElem?_cons_zero, List.getElem?_cons_succ, Option.bind_some, List.setIfInBounds_toArray, List.set_cons_zero, List.set_cons_succ]
        refine Plan.det 1 rfl (Grow.refl) ?_
        apply Exists.intro
        refine ⟨fun vs x hR hF K hK => ?_, ?_⟩
        · clear hF
          go_simp
          exact hK _ _ (Grow.refl _) rfl
        refine Plan.det 2 rfl (Grow.refl) ?_
        apply Exists.intro
        refine ⟨fun vs x hR hF K hK => ?_, ?_⟩
        · clear hF
          go_simp
          exact hK _ _ (Grow.refl _) rfl
        refine Plan.det 3 rfl (Grow.refl) ?_
        apply Exists.intro
        refine ⟨fun vs x hR hF K hK => ?_, ?_⟩
        · have f1 := hF 0 _ _ rfl rfl; have hc := HC.out x hR; clear hF
          go_simp
          exact hK _ _ (Grow.refl _) rfl
        refine Plan.det 4 rfl (Grow.refl) ?_
        apply Exists.intro
        refine ⟨fun vs x hR hF K hK => ?_, ?_⟩
        · clear hF
          go_simp
          exact hK _ _ (Grow.refl _) rfl
        refine Plan.det 5 rfl (Grow.refl) ?_
        apply Exists.intro
        refine ⟨fun vs x hR hF K hK => ?_, ?_⟩
        · have f3 := hF 0 _ _ rfl rfl; have hc := HC.out x hR; clear hF
          go_simp
          exact hK _ _ (Grow.refl _) rfl
        refine Plan.det 6 rfl (Grow.refl) ?_
        apply Exists.intro
        refine ⟨fun vs x hR hF K hK => ?_, ?_⟩
        · clear hF
          go_simp
          exact hK _ _ (Grow.refl _) rfl
        refine Plan.det 7 rfl (Grow.refl) ?_
        apply Exists.intro
        refine ⟨fun vs x hR hF K hK => ?_, ?_⟩
        · have f5 := hF 0 _ _ rfl rfl; have hc := HC.out x hR; clear hF
          go_simp
          exact hK _ _ (Grow.refl _) rfl
        refine Plan.det 8 rfl (Grow.refl) ?_
        apply Exists.intro
        refine ⟨fun vs x hR hF K hK => ?_, ?_⟩
        · clear hF
          go_simp
          exact hK _ _ (Grow.refl _) rfl
        refine Plan.det 9 rfl (Grow.refl) ?_
        apply Exists.intro
        refine ⟨fun vs x hR hF K hK => ?_, ?_⟩
        · clear hF
          go_simp
          exact hK _ _ (Grow.refl _) rfl
        refine Plan.det 10 rfl (Grow.refl) ?_
        apply Exists.intro
        refine ⟨fun vs x hR hF K hK => ?_, ?_⟩
        · have f8 := hF 0 _ _ rfl rfl; have hc := HC.out x hR; clear hF
          go_simp
          exact hK _ _ (Grow.refl _) rfl
        refine Plan.det 11 rfl (Grow.refl) ?_
        apply Exists.intro
        refine ⟨fun vs x hR hF K hK => ?_, ?_⟩
        · have f7 := hF 2 _ _ rfl rfl; have f9 := hF 0 _ _ rfl rfl; clear hF
          go_simp
          exact hK _ _ (Grow.refl _) rfl
        refine Plan.rel 12 rfl (Grow.refl) (fun v y => ∃ (a2 : Option Addr) (c2 : Nat), v = .slice a2 U.length c2 ∧ SpQ y (.slice a2 U.length c2) U) (fun v y1 y2 hR ⟨a2, c2, h1, h2⟩ => ⟨a2, c2, h1, h2.below hR⟩) (fun vs x hR hF K hK => ?_) ?_
        · have f4 := hF 6 _ _ rfl rfl; have f6 := hF 4 _ _ rfl rfl; have f10 := hF 0 _ _ rfl rfl
          go_simp
          refine (HWI.out x hR).mono ?_
          rintro e x1 ⟨a2, c2, rfl, hbe, h1⟩
          exact ⟨_, rfl, hK _ _ hbe ⟨a2, c2, rfl, h1⟩⟩
        refine Plan.rel 13 rfl (Grow.refl) (fun v y => ∃ (a2 : Option Addr) (c2 : Nat), v = .agg #[.int .i64 u1, .slice a2 U.length c2] ∧ SpQ y (.slice a2 U.length c2) U) (fun v y1 y2 hR ⟨a2, c2, h1, h2⟩ => ⟨a2, c2, h1, h2.below hR⟩) (fun vs x hR hF K hK => ?_) ?_
        · have f2 := hF 9 _ _ rfl rfl; have f11 := hF 0 _ _ rfl rfl
          obtain ⟨a2, c2, e9, h9⟩ := f11
          simp only [e9] at *
          go_simp
          exact hK _ _ (Grow.refl _) ⟨a2, c2, rfl, h9⟩
        refine PlanEnd (by simp) (fun vs x hR hF => ?_)
        have f0 := hF 12 _ _ rfl; have f1 := hF 11 _ _ rfl; have f2 := hF 10 _ _ rfl; have f3 := hF 9 _ _ rfl; have f4 := hF 8 _ _ rfl; have f5 := hF 7 _ _ rfl; have f6 := hF 6 _ _ rfl; have f7 := hF 5 _ _ rfl; have f8 := hF 4 _ _ rfl; have f9 := hF 3 _ _ rfl; have f10 := hF 2 _ _ rfl; have f11 := hF 1 _ _ rfl; have f12 := hF 0 _ _ rfl
        clear hF
        simp only [f0, f1, f2, f3, f4, f5, f6, f7, f8, f9, f10]
        clear f0 f1 f2 f3 f4 f5 f6 f7 f8 f9 f10
        intro oo hoo KQ hK
        obtain rfl := Option.some.inj hoo
        clear hoo
        have HXB := hid (grow_below hR)
        obtain ⟨a2, c2, e9, h9⟩ := f12
        have HX := hid (⟨HY.out.1.below HXB.out, HY.out.2.1.later HXB.out, HY.out.2.2.1.below HXB.out, h9, Nat.le_trans HY.out.2.2.2.2.2 (by have := HXB.out.size; simp at this; omega)⟩ : OutV (w.heap.size + 2) ov ((l.take j).map (fun q : Parse => ((q.1, q.2.set (p.gr.toNat - 1) ((i : Int), (q.1 : Int))) : Parse))) x ∧ PAt w M s lines [.int .i64 p.op, .int .u64 p.set.a, .int .u64 p.set.b, .int .u64 p.set.c, .int .u64 p.set.d, .int .i64 p.lo, .int .i64 p.hi, .int .i64 p.gr, .slice (some ⟨bb, o, none⟩) 1 cap] (.int .i64 i) (.slice sa sp.length sc) x ∧ PsQ (fun b => ov.ownBlock ≠ some b) x _ l ∧ SpQ x (.slice a2 U.length c2) U ∧ w.heap.size + 3 ≤ x.heap.size)
        clear hR f11 h9
        simp only [e9]
        go_simp
        refine (padd_any x (w.heap.size + 2) ov ((l.take j).map (fun q : Parse => ((q.1, q.2.set (p.gr.toNat - 1) ((i : Int), (q.1 : Int))) : Parse))) true (u1, U) a2 c2 HX.out.1 HLT.out HX.out.2.2.2.1).mono ?_
        rintro e z ⟨rfl, ov', hz⟩
        rw [if_pos rfl, HTK.out] at hz
        refine ⟨_, rfl, hK _ _ ?_⟩
        clear hK
        unfold AfterC
        simp only [fill, dstOf, Act.put, List.getElem?_toArray, List.getElem?_cons_zero, List.getElem?_cons_succ, Option.bind_some, List.setIfInBounds_toArray, List.set_cons_zero, List.set_cons_succ, List.drop_succ_cons, List.drop_zero]
        refine Plan.nil (fun vs x hR2 hF => ?_)
        have f13 := hF 0 _ _ rfl
        clear hF
        simp only [f13]
        clear f13
        subst hR2
        simp only [List.drop_succ_cons, List.drop_nil]
        have HX3 := hid (⟨hz.1, HX.out.2.1.low (hz.low HX.out.1) (Nat.le_refl _) HMW.out, hz.ps HX.out.1 HX.out.2.2.1, Nat.le_trans HX.out.2.2.2.2 (hz.low HX.out.1).size⟩ : OutV _ _ _ z ∧ PAt w M s lines [.int .i64 p.op, .int .u64 p.set.a, .int .u64 p.set.b, .int .u64 p.set.c, .int .u64 p.set.d, .int .i64 p.lo, .int .i64 p.hi, .int .i64 p.gr, .slice (some ⟨bb, o, none⟩) 1 cap] (.int .i64 i) (.slice sa sp.length sc) z ∧ PsQ _ z _ _ ∧ _)
        clear hz HC
        go_wp2_with fail
        exact ⟨⟨j + 1, ov', by rw [Int.natCast_add]; rfl, hlt, hid ⟨HX3.out.1, HX3.out.2.1, HX3.out.2.2.1, HX3.out.2.2.2⟩⟩, by simp [intOf]; omega⟩
      · have hje : j = n := by omega
        have hltI : ¬ (j : Int) < (n : Int) := by omega
        have HTL : Hid ((l.take j).map (fun q : Parse => ((q.1, q.2.set (p.gr.toNat - 1) ((i : Int), (q.1 : Int))) : Parse)) = l.map (fun q : Parse => ((q.1, q.2.set (p.gr.toNat - 1) ((i : Int), (q.1 : Int))) : Parse))) := by show _ = _; rw [List.take_of_length_le (by have := HNN.out; omega)]
        have hml : (l.map (fun q : Parse => ((q.1, q.2.set (p.gr.toNat - 1) ((i : Int), (q.1 : Int))) : Parse))).length ≤ 200000 := by rw [List.length_map, ← HNN.out]; omega
        have hmk : ∀ q, q ∈ l.map (fun q : Parse => ((q.1, q.2.set (p.gr.toNat - 1) ((i : Int), (q.1 : Int))) : Parse)) → POk N s.size 0 q := fun q hq => by
          obtain ⟨q0, h1, rfl⟩ := List.mem_map.1 hq
          have h2 := HPK.out q0 h1
          exact ⟨Nat.zero_le _, h2.2.1, h2.2.2.put _ _ _ h2.1 h2.2.1⟩
        have HX4 := hid (⟨HX.out.1, HX.out.2.1⟩ : _ ∧ PAt w M s lines [.int .i64 p.op, .int .u64 p.set.a, .int .u64 p.set.b, .int .u64 p.set.c, .int .u64 p.set.d, .int .i64 p.lo, .int .i64 p.hi, .int .i64 p.gr, .slice (some ⟨bb, o, none⟩) 1 cap] (.int .i64 i) (.slice sa sp.length sc) wr)
        rw [HTL.out] at HX4
        have q3 := HX4.out.1.1.cell 0
        have HE := hid (pend_any w wr _ ov _ N s.size _ HX4.out.1 HX4.out.2.2.2.2 hml hmk hN hs HT.out HPA2.out)
        clear HX hml hmk hje
        go_wp2_with fail
        refine HE.out.mono ?_
        rintro e z2 ⟨hb2, h2⟩
        obtain ⟨r2, hr2⟩ : ∃ r2, r2 = parses s.data.toList lines (.mk p [x0]) i sp := ⟨_, rfl⟩
        rw [← hr2] at h2
        have HR2 := hid hr2
        clear hr2
        cases r2 with
        | none =>
          subst h2
          refine ⟨rfl, ?_⟩
          rw [← HR2.out]
          exact ⟨hb2, rfl⟩
        | some l2 =>
          obtain ⟨a2, c2, rfl, h2⟩ := h2
          have HR := hid (⟨hb2, h2⟩ : _ ∧ _)
          clear hb2 h2
          go_wp2_with fail
          go_ret
          rw [← HR2.out]
          exact ⟨HR.out.1, a2, c2, rfl, HR.out.2⟩
end Go.Proofs.YthnpbopnpdlmnaaDoor
