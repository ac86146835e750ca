/- The program of layer 9: what a visit of a repetition may change. -/
import Derived.Test.YthnpbopnpdlmnaaDoorA35
import Derived.Test.YthnpbopnpdlmnaaDoorA31
import Derived.Test.YthnpbopnpdlmnaaDoorA33
namespace Go.Proofs.YthnpbopnpdlmnaaDoor
open Go.RowKit
attribute [local go_sem] gives givesUpon

def RpS (s : ByteArray) (lines : Bool) (BXL : List Value) (M RB SB MB VB OB SM : Nat) (x : World) : Prop :=
  Row x M [.string s, .bool lines] 67 ∧ Row x RB BXL 28 ∧ Row x MB [.pointer (some ⟨M, 0, none⟩)] 65 ∧ Row x SB [.map (some SM)] 103 ∧
  Row x VB [.func (.func 56) #[] #[.pointer (some ⟨RB, 0, none⟩), .pointer (some ⟨SB, 0, none⟩), .pointer (some ⟨MB, 0, none⟩), .pointer (some ⟨VB, 0, none⟩), .pointer (some ⟨OB, 0, none⟩)]] 104
def RpAt (s : ByteArray) (lines : Bool) (BXL : List Value) (M RB SB MB VB OB SM : Nat) (ov : Value) (seen : List Sit) (out : List Parse) (x : World) : Prop :=
  RpS s lines BXL M RB SB MB VB OB SM x ∧ KSet encS x SM (seen.map sitK) ∧ OutV OB ov out x
structure FrP (SM OB : Nat) (w : World) (ov : Value) (w' : World) (ov' : Value) : Prop where
  but : But (SM :: OB :: blk ov) w w'
  o : ∀ g, ov'.ownBlock = some g → ov.ownBlock = some g ∨ w.heap.size ≤ g
theorem FrP.of_below {SM OB : Nat} {w w' : World} {ov : Value} (h : Below w.heap.size w w') : FrP SM OB w ov w' ov := ⟨But.of_below h, fun _ h => .inl h⟩
theorem FrP.trans {SM OB : Nat} {a b c : World} {o0 o1 o2 : Value} (h : FrP SM OB a o0 b o1) (k : FrP SM OB b o1 c o2) : FrP SM OB a o0 c o2 := by
  refine ⟨h.but.later k.but fun i hi => ?_, fun g hg => ?_⟩
  · rcases List.mem_cons.1 hi with rfl | hi
    · exact .inl (by simp)
    · rcases List.mem_cons.1 hi with rfl | hi
      · exact .inl (by simp)
      · exact (h.o i (mem_blk.1 hi)).imp (fun h1 => by simp [mem_blk.2 h1]) id
  · rcases k.o g hg with h1 | h1
    · exact h.o g h1
    · exact .inr (Nat.le_trans h.but.size h1)
section
variable {s : ByteArray} {lines : Bool} {BXL : List Value} {M RB SB MB VB OB SM : Nat} {ov : Value} {seen : List Sit} {out : List Parse}
theorem RpS.later {x y : World} (h : RpS s lines BXL M RB SB MB VB OB SM x) (hb : Below x.heap.size x y) : RpS s lines BXL M RB SB MB VB OB SM y :=
  ⟨h.1.below hb h.1.lt, h.2.1.below hb h.2.1.lt, h.2.2.1.below hb h.2.2.1.lt, h.2.2.2.1.below hb h.2.2.2.1.lt, h.2.2.2.2.below hb h.2.2.2.2.lt⟩
theorem RpAt.later {x y : World} (h : RpAt s lines BXL M RB SB MB VB OB SM ov seen out x) (hb : Below x.heap.size x y) : RpAt s lines BXL M RB SB MB VB OB SM ov seen out y :=
  ⟨h.1.later hb, h.2.1.below hb, h.2.2.below hb⟩
theorem RpAt.other {x : World} (h : RpAt s lines BXL M RB SB MB VB OB SM ov seen out x) {b : Nat} {cs : List Value} {T : TypeId} (hr : Row x b cs T) (h1 : T ≠ 39) (h2 : T ≠ 71) : b ∉ SM :: OB :: blk ov := by
  intro hm
  rcases List.mem_cons.1 hm with rfl | hm
  · exact h.2.1.row hr
  · rcases List.mem_cons.1 hm with rfl | hm
    · exact h1 (hr.typed h.2.2.1)
    · obtain ⟨cs', hr'⟩ := h.2.2.2.row (mem_blk.1 hm)
      exact h2 (hr.typed hr')
theorem RpAt.parse {x : World} (h : RpAt s lines BXL M RB SB MB VB OB SM ov seen out x) {b : Nat} {cs : List Value} (hr : Row x b cs 71) (hb : ov.ownBlock ≠ some b) : b ∉ SM :: OB :: blk ov := by
  intro hm
  rcases List.mem_cons.1 hm with rfl | hm
  · exact h.2.1.row hr
  · rcases List.mem_cons.1 hm with rfl | hm
    · exact absurd (hr.typed h.2.2.1) (by decide)
    · exact hb (mem_blk.1 hm)
theorem RpAt.span {x y : World} {ov' : Value} (h : RpAt s lines BXL M RB SB MB VB OB SM ov seen out x) (hf : FrP SM OB x ov y ov') {v : Value} {sp : Spans} (hs : SpQ x v sp) : SpQ y v sp := hs.but hf.but fun _ _ hr => h.other hr (by decide) (by decide)
theorem RpAt.ps {x y : World} {ov' : Value} (h : RpAt s lines BXL M RB SB MB VB OB SM ov seen out x) (hf : FrP SM OB x ov y ov') {v : Value} {l : List Parse} (hs : PsQ (fun b => ov.ownBlock ≠ some b) x v l) : PsQ (fun b => ov'.ownBlock ≠ some b) y v l :=
  hs.of (fun b cs hr => hr.but hf.but (h.other hr (by decide) (by decide))) fun b cs hp hr => ⟨hr.but hf.but (h.parse hr hp), fun e => by rcases hf.o b e with h1 | h1; exact hp h1; have := hr.lt; omega⟩
theorem RpS.but {S : List Nat} {x y : World} (h : RpS s lines BXL M RB SB MB VB OB SM x) (hb : But S x y) (hn : ∀ b cs T, Row x b cs T → T ≠ 39 → T ≠ 71 → b ∉ S) : RpS s lines BXL M RB SB MB VB OB SM y :=
  ⟨h.1.but hb (hn _ _ _ h.1 (by decide) (by decide)), h.2.1.but hb (hn _ _ _ h.2.1 (by decide) (by decide)), h.2.2.1.but hb (hn _ _ _ h.2.2.1 (by decide) (by decide)), h.2.2.2.1.but hb (hn _ _ _ h.2.2.2.1 (by decide) (by decide)), h.2.2.2.2.but hb (hn _ _ _ h.2.2.2.2 (by decide) (by decide))⟩
theorem RpAt.low {x y : World} {ov' : Value} {n : Nat} (h : RpAt s lines BXL M RB SB MB VB OB SM ov seen out x) (hf : FrP SM OB x ov y ov') (h1 : n ≤ SM) (h2 : n ≤ OB) : Below n x y :=
  hf.but.below (Nat.le_trans h2 (Nat.le_of_lt h.2.2.1.lt)) fun k hk => by
    rcases List.mem_cons.1 hk with rfl | hk
    · exact h1
    · rcases List.mem_cons.1 hk with rfl | hk
      · exact h2
      · have := (h.2.2.2.lt k (mem_blk.1 hk)).1; omega
theorem RpAt.push {x y : World} {st : Sit} (h : RpAt s lines BXL M RB SB MB VB OB SM ov seen out x) (hk : KSet encS y SM (seen.map sitK ++ [sitK st])) (hb : But [SM] x y) : RpAt s lines BXL M RB SB MB VB OB SM ov (seen ++ [st]) out y ∧ FrP SM OB x ov y ov := by
  have hn : ∀ b cs T, Row x b cs T → b ∉ [SM] := fun b cs T hr hm => by
    rw [List.mem_singleton.1 hm] at hr
    exact h.2.1.row hr
  refine ⟨⟨h.1.but hb fun b cs T hr _ _ => hn b cs T hr, by rw [List.map_append]; exact hk, h.2.2.1.but hb (hn _ _ _ h.2.2.1), h.2.2.2.keep (fun b cs hr => hr.but hb (hn _ _ _ hr)) fun g hg => hb.block g (h.2.2.2.lt g hg).2 fun hm => ?_⟩, ⟨⟨hb.os, hb.tape, hb.output, hb.size, fun i h1 h2 => hb.block i h1 fun hm => h2 (by simp [List.mem_singleton.1 hm])⟩, fun g hg => .inl hg⟩⟩
  obtain ⟨cs, hr⟩ := h.2.2.2.row hg
  exact hn _ _ _ hr hm
theorem RpAt.newOut {x y : World} {ov' : Value} {out' : List Parse} (h : RpAt s lines BXL M RB SB MB VB OB SM ov seen out x) (hp : OutPost OB ov x ov' out' y) : RpAt s lines BXL M RB SB MB VB OB SM ov' seen out' y ∧ FrP SM OB x ov y ov' := by
  have hn : ∀ b cs T, Row x b cs T → T ≠ 39 → T ≠ 71 → b ∉ OB :: blk ov := fun b cs T hr h1 h2 hm => by
    have := h.other hr h1 h2
    exact this (List.mem_cons_of_mem _ hm)
  refine ⟨⟨h.1.but hp.2.1 hn, h.2.1.but hp.2.1 fun hm => ?_, hp.1⟩, ⟨⟨hp.2.1.os, hp.2.1.tape, hp.2.1.output, hp.2.1.size, fun i h1 h2 => hp.2.1.block i h1 fun hm => h2 (List.mem_cons_of_mem _ hm)⟩, hp.2.2⟩⟩
  rcases List.mem_cons.1 hm with e | hm
  · subst e; exact h.2.1.row h.2.2.1
  · obtain ⟨cs, hr⟩ := h.2.2.2.row (mem_blk.1 hm)
    exact h.2.1.row hr
end
def VisPostP (N : Nat) (s : ByteArray) (lines : Bool) (BXL : List Value) (M RB SB MB VB OB SM : Nat) (ov : Value) (m : Nat) (w : World) (r : Option (List Sit × List Parse)) (e : Ending) (w' : World) : Prop :=
  ∃ ov', FrP SM OB w ov w' ov' ∧ match r with
    | some st' => e = .returned (.tuple #[]) ∧ RpAt s lines BXL M RB SB MB VB OB SM ov' st'.1 st'.2 w' ∧ StOk N s.size st' ∧ m ≤ st'.1.length
    | none => e = .panicked exh
def VisP (N : Nat) (s : ByteArray) (lines : Bool) (BXL : List Value) (M RB SB MB VB OB SM : Nat) (w : World) (ov : Value) (m i : Nat) (spv : Value) (sp : Spans) (st : List Sit × List Parse) (ov' : Value) (y : World) : Prop :=
  RpAt s lines BXL M RB SB MB VB OB SM ov' st.1 st.2 y ∧ Row y w.heap.size [.int .i64 i, spv] 71 ∧ FrP SM OB w ov y ov' ∧ SpQ y spv sp ∧ ov'.ownBlock ≠ some w.heap.size ∧ (m + 1 ≤ 4096 → StOk N s.size st) ∧ m < st.1.length ∧ w.heap.size < y.heap.size
section
variable {N : Nat} {s : ByteArray} {lines : Bool} {BXL : List Value} {M RB SB MB VB OB SM : Nat} {w : World} {ov : Value} {m i : Nat} {spv : Value} {sp : Spans} {st : List Sit × List Parse} {ov' : Value} {y : World}
theorem VisP.later {z : World} (h : VisP N s lines BXL M RB SB MB VB OB SM w ov m i spv sp st ov' y) (hb : Below y.heap.size y z) : VisP N s lines BXL M RB SB MB VB OB SM w ov m i spv sp st ov' z := by
  obtain ⟨h1, h2, h3, h4, h5, h6, h7, h8⟩ := h
  exact ⟨h1.later hb, h2.below hb h2.lt, h3.trans (FrP.of_below hb), h4.below hb, h5, h6, h7, Nat.lt_of_lt_of_le h8 hb.size⟩
theorem VisP.step {z : World} {st2 : List Sit × List Parse} {ov2 : Value} (h : VisP N s lines BXL M RB SB MB VB OB SM w ov m i spv sp st ov' y) (hf : FrP SM OB y ov' z ov2) (hl : RpAt s lines BXL M RB SB MB VB OB SM ov2 st2.1 st2.2 z) (ho : StOk N s.size st2) (hm : st.1.length ≤ st2.1.length) : VisP N s lines BXL M RB SB MB VB OB SM w ov m i spv sp st2 ov2 z := by
  obtain ⟨h1, h2, h3, h4, h5, h6, h7, h8⟩ := h
  refine ⟨hl, h2.but hf.but (h1.parse h2 h5), h3.trans hf, h1.span hf h4, fun e => ?_, fun _ => ho, Nat.lt_of_lt_of_le h7 hm, Nat.lt_of_lt_of_le h8 hf.but.size⟩
  rcases hf.o _ e with h9 | h9
  · exact h5 h9
  · omega
end
end Go.Proofs.YthnpbopnpdlmnaaDoor

/- A region that draws its order and holds one call that panics, with operations that may run ahead of it though they stand behind it. Nothing here speaks of the program. -/
namespace Go.Proofs.YthnpbopnpdlmnaaDoor
open Go.RowKit

section
variable {P : Program} {ops : Array Oper} {Q : Exit → Act → World → Prop}

def planQ (ops : Array Oper) (n m : Nat) (fr : List Nat) : Bool :=
  decide (n < ops.size) &&
  ((List.range ops.size).all fun i => (List.range ops.size).all fun j => decide (i = j) || (dstOf ops i).isNone || decide (dstOf ops i ≠ dstOf ops j)) &&
  ((List.range ops.size).all fun i => match dstOf ops i with | some d => decide (d < m) | none => true) &&
  (match ops[n]? with | some o => o.guard.isNone | none => false) &&
  ((List.range ops.size).all fun t => decide (t ≤ n) || fr.contains t || (List.range t).any fun j => decide (n ≤ j) && !fr.contains j && waits ops t j) &&
  ((List.range ops.size).all fun t => match ops[t]? with | some o => o.after.all fun e => !Region.binds .any e || decide (e.on < t) | none => true) &&
  (fr.all fun t => decide (n < t) && decide (t < ops.size))
theorem planQ_B {n m : Nat} {fr : List Nat} (h : planQ ops n m fr = true) : planB ops ops.size m = true := by
  simp only [planQ, Bool.and_eq_true, decide_eq_true_eq] at h
  obtain ⟨⟨⟨⟨⟨⟨h1, h2⟩, h3⟩, h4⟩, h5⟩, h6⟩, h7⟩ := h
  simp only [planB, Bool.and_eq_true, Bool.or_eq_true, decide_eq_true_eq]
  refine ⟨⟨⟨⟨⟨Nat.le_refl _, h2⟩, h3⟩, .inl trivial⟩, ?_⟩, h6⟩
  exact List.all_eq_true.2 fun t ht => by
    have := List.mem_range.1 ht
    simp; left; omega
theorem inv_panQ {n m : Nat} {fr : List Nat} {R : World → World → Prop} {w0 : World} {a0 : Act} {φ : Nat → Value → World → Prop} (htr : ∀ x y z, R x y → R y z → R x z) (hrf : ∀ x, R x x) (hφ : ∀ i v x y, R x y → φ i v x → φ i v y)
    (hB : planQ ops n m fr = true)
    (hop : ∀ i o, (i < n ∨ i ∈ fr) → ops[i]? = some o → ∀ vs w, R w0 w → (∀ j, j < n → waits ops i j = true → φ j (vs j) w) → StepOf P ops R (φ i) o (fill ops vs ops.size a0) w)
    (hpan : ∀ o, ops[n]? = some o → ∀ vs w, R w0 w → (∀ j, j < n → waits ops n j = true → φ j (vs j) w) → givesPan P o (fill ops vs ops.size a0) w fun c w' => ∀ A, A.defers = (fill ops vs ops.size a0).defers → Q (.panic c) A w') :
    ∀ (fuel : Nat) (listed : Array Bool) (a : Act) (w : World), Inv ops ops.size R w0 a0 φ listed a w → (∀ t, n ≤ t → t ∉ fr → t < ops.size → listed.getD t true = false) → left ops listed ≤ fuel → wpAny P .any ops Q fuel listed a w := by
  have hB0 := planQ_B hB
  simp only [planQ, Bool.and_eq_true, decide_eq_true_eq] at hB
  obtain ⟨⟨⟨⟨⟨⟨hn, hdist⟩, hbnd⟩, hgd⟩, hc⟩, _⟩, hfr⟩ := hB
  have hfr' : ∀ t, t ∈ fr → n < t ∧ t < ops.size := fun t ht => by
    have := List.all_eq_true.1 hfr t ht
    simpa using this
  have hnf : n ∉ fr := fun h => by have := (hfr' n h).1; omega
  have hdist' : ∀ i j, i < ops.size → j < ops.size → j ≠ i → dstOf ops i = none ∨ dstOf ops i ≠ dstOf ops j := by
    intro i j hi hj hne
    have h1 := List.all_eq_true.1 (List.all_eq_true.1 hdist i (List.mem_range.2 (by omega))) j (List.mem_range.2 (by omega))
    simp only [Bool.or_eq_true, decide_eq_true_eq, Option.isNone_iff_eq_none] at h1
    rcases h1 with (h1 | h1) | h1
    · omega
    · exact .inl h1
    · exact .inr h1
  intro fuel
  induction fuel with
  | zero =>
    intro listed a w inv htl hl
    exfalso
    have : 0 < left ops listed := by
      unfold left
      refine List.countP_pos_iff.2 ⟨n, List.mem_range.2 hn, ?_⟩
      rw [htl n (Nat.le_refl _) hnf hn]; rfl
    omega
  | succ fuel ih =>
    intro listed a w inv htl hl
    refine ⟨fun h0 => absurd h0 (least_ready hB0 inv.size (i := n) hn (htl n (Nat.le_refl _) hnf hn)), fun i hi => ?_⟩
    have hleft := left_set hi
    obtain ⟨hun, o, ho, hall⟩ := mem_ready.1 hi
    have hlt : i < ops.size := (Array.getElem?_eq_some_iff.1 ho).1
    obtain ⟨vs, rfl, hv⟩ := inv.facts
    have hdeps : ∀ j, j < n → waits ops i j = true → φ j (vs j) w := by
      intro j hjn hw
      obtain ⟨o', ho', e, he, hb, hon⟩ := waits_spec hw
      have : o' = o := Option.some.inj (ho'.symm.trans ho)
      subst this
      have h3 := hall e he hb
      rw [hon] at h3
      exact hv j (by omega) h3
    by_cases hrun : i < n ∨ i ∈ fr
    · have hst := hop i o hrun ho vs w inv.above hdeps
      have hd0 : dstOf ops i = o.dst := by simp [dstOf, ho]
      have hnext : ∀ u w', R w w' → φ i u w' → wpAny P .any ops Q fuel (listed.setIfInBounds i true) ((fill ops vs ops.size a0).put o.dst u) w' := by
        intro u w' hR hu
        refine ih _ _ _ ⟨by simp [inv.size], fun j oj hoj hlj e he hb => ?_, fun t ht ht' => by omega, htr _ _ _ inv.above hR, ⟨fun j => if j = i then u else vs j, ?_, fun j hjn hlj => ?_⟩⟩ (fun t h1 h2 h3 => ?_) (by omega)
        · by_cases hij : i = j
          · subst hij
            have : oj = o := Option.some.inj (hoj.symm.trans ho)
            subst this
            exact getD_set_true (hall e he hb)
          · rw [getD_set_ne false hij] at hlj
            exact getD_set_true (inv.closed j oj hoj hlj e he hb)
        · rw [← hd0]
          exact fill_set vs a0 i u ops.size (fun j hj hne => hdist' i j hlt hj hne) hlt
        · by_cases hij : j = i
          · subst hij; simpa using hu
          · simp only [hij, if_false]
            rw [getD_set_ne false (Ne.symm hij)] at hlj
            exact hφ j _ _ _ hR (hv j hjn hlj)
        · have hne : i ≠ t := fun e => by
            subst e
            rcases hrun with h | h
            · omega
            · exact h2 h
          rw [getD_set_ne true hne]
          exact htl t h1 h2 h3
      unfold wpOp
      rw [ho]
      show if Region.wanted o (yielded ops (fill ops vs ops.size a0).tmps) = true then _ else _
      unfold StepOf at hst
      split
      · rename_i hw
        rw [if_pos hw] at hst
        exact .inl (hst.wp fun v w' ⟨h1, h2⟩ => hnext v w' h1 h2)
      · rename_i hw
        rw [if_neg hw] at hst
        exact hnext undef w (hrf w) hst
    · by_cases hin : i = n
      · subst hin
        have hg : o.guard = none := by
          rw [ho] at hgd
          simpa using hgd
        have hw : Region.wanted o (yielded ops (fill ops vs ops.size a0).tmps) = true := by simp [Region.wanted, hg]
        unfold wpOp
        rw [ho]
        show if Region.wanted o (yielded ops (fill ops vs ops.size a0).tmps) = true then _ else _
        rw [if_pos hw]
        exact .inl ((hpan o ho vs w inv.above hdeps).wp fun c w' h => h _ rfl)
      · exfalso
        have h1 := List.all_eq_true.1 hc i (List.mem_range.2 hlt)
        simp only [Bool.or_eq_true, decide_eq_true_eq] at h1
        rcases h1 with (h1 | h1) | h1
        · exact hrun (.inl (by omega))
        · exact hrun (.inr (by simpa using h1))
        · obtain ⟨j, hj, hj2⟩ := List.any_eq_true.1 h1
          simp only [Bool.and_eq_true, decide_eq_true_eq, Bool.not_eq_true'] at hj2
          have hjt := List.mem_range.1 hj
          obtain ⟨o', ho', e, he, hb, hon⟩ := waits_spec hj2.2
          have : o' = o := Option.some.inj (ho'.symm.trans ho)
          subst this
          have h2 := hall e he hb
          rw [hon, bothD (htl j hj2.1.1 (fun h => by have := hj2.1.2; simp [h] at this) (by omega))] at h2
          cases h2

theorem wp_region_panQ {id : Nat} {a : Act} {w : World} {l : List Oper} (n : Nat) (fr : List Nat) (R : World → World → Prop) (hm : P.follows .mixedOrders = true) (hB : planQ l.toArray n a.tmps.size fr = true)
    (hrf : ∀ x, R x x) (htr : ∀ x y z, R x y → R y z → R x z) (h : PlanP P l.toArray R w.drew n (fun vs => fill l.toArray vs l.length a) (CallPn P l Q n a.defers) (l.take n) 0 [])
    (hfr : ∀ i, i ∈ fr → ∀ o, l[i]? = some o → ∀ vs x, R w.drew x → StepOf P l.toArray R (fun _ _ => True) o (fill l.toArray vs l.length a) x) : (Code.region id l.toArray true).wp P Q a w := by
  obtain ⟨full, f1, f2, f3, f4, f5⟩ := PlanP.spec _ _ _ [] h rfl (fun j φ hm => by cases hm) (fun φ hm => by cases hm)
  have hn : n < l.length := by
    simp only [planQ, Bool.and_eq_true, decide_eq_true_eq] at hB
    simpa using hB.1.1.1.1.1.1
  have hlen : full.length = n := by rw [f1]; simp; omega
  refine wp_region_any hm (inv_panQ (ops := l.toArray) (R := R) (w0 := w.drew) (a0 := a) (n := n) (fr := fr) (φ := fun i => full.getD i (fun _ _ => True)) htr hrf (fun i v x y hR hp => ?_) hB (fun i o hi ho vs x hR hF => ?_) (fun o ho vs x hR hF => ?_) _ _ _ _ ⟨by simp, fun j oj _ hl => (by rw [repD] at hl; cases hl), fun t h1 h2 => absurd h2 (by omega), hrf _, ⟨fun j => match dstOf l.toArray j with | some d => a.tmps.getD d undef | none => undef, (fill_self a l.toArray.size).symm, fun j _ hj => (by rw [repD] at hj; cases hj)⟩⟩ (fun t _ _ ht => inD (by simpa using ht) (repD _ _)) ?_)
  · by_cases hi : i < full.length
    · have he : full.getD i (fun _ _ => True) = full[i] := by simp [hi]
      simp only [he] at hp ⊢
      exact f3 _ (List.getElem_mem hi) v x y hR hp
    · have he : full.getD i (fun _ _ => True) = fun _ _ => True := by rw [List.getD_eq_getElem?_getD, List.getElem?_eq_none (by omega)]; rfl
      simp only [he]
  · by_cases hin : i < n
    case neg =>
      have hif : i ∈ fr := hi.resolve_left hin
      have he : full.getD i (fun _ _ => True) = fun _ _ => True := by rw [List.getD_eq_getElem?_getD, List.getElem?_eq_none (by omega)]; rfl
      simp only [he]
      exact hfr i hif o (by simpa using ho) vs x hR
    have hi := hin
    have he : full[0 + i]? = some (full.getD i (fun _ _ => True)) := by rw [Nat.zero_add]; simp [show i < full.length by omega]
    refine f4 i o _ (by rw [List.getElem?_take]; rw [if_pos hi]; simpa using ho) he vs x hR fun j φ' hj hf hw => ?_
    have := hF j (by omega) (by rw [Nat.zero_add] at hw; exact hw)
    rwa [List.getD_eq_getElem?_getD, hf] at this
  · have hcall := f5 vs x hR fun j φ hj hw => by
      have := hF j (by rw [← hlen]; exact (List.getElem?_eq_some_iff.1 hj).1) hw
      rwa [List.getD_eq_getElem?_getD, hj] at this
    exact hcall o (by simpa using ho) _ (fun c x' h A hA => h A (by rw [hA, defers_fill]))
  · unfold left
    refine Nat.le_trans List.countP_le_length ?_
    simp
end
end Go.Proofs.YthnpbopnpdlmnaaDoor
