/- Reback's laws: whether two matches are the same; what a search comes to, reckoned. -/
import Derived.Test.YthnpbopnpdlmnaaB06
import Derived.Test.YthnpbopnpdlmnaaB41
namespace Go.Proofs.Ythnpbopnpdlmnaa
open Go.RowKit
attribute [local go_sem] gives givesUpon

/-- What a job comes to, reckoned with fuel. -/
def runJ (s : List UInt8) (lines : Bool) : Nat → Job → Spans → Kont → Nat → Option (Out × Nat)
  | 0, _, _, _, _ => none
  | f + 1, .try e i k, sp, K, n => match n with
    | 0 => some (.over, 0)
    | n + 1 => match e with
      | .mk p xs =>
        if p.op = 3 then runJ s lines f (.cat xs i k) sp K n
        else if p.op = 4 then runJ s lines f (.alt xs i k) sp K n
        else if p.op = 5 then (match xs with | [x] => runJ s lines f (.rep p x 0 i k) sp K n | _ => none)
        else if p.op = 6 then (match xs with | [x] => runJ s lines f (.try x i k) sp (.mark p.gr.toNat i k K) n | _ => none)
        else if plainOf s lines p i k sp then runJ s lines f .next sp K n else some (.fail, n)
  | f + 1, .cat xs i k, sp, K, n => match xs with
    | [x] => runJ s lines f (.try x i k) sp K n
    | x :: y :: ys => runJ s lines f (.catj x (y :: ys) i k (k + 1 - i)) sp K n
    | [] => none
  | f + 1, .catj x xs i k c, sp, K, n => match c with
    | 0 => some (.fail, n)
    | c + 1 => match runJ s lines f (.try x i (i + c)) sp (.cat xs (i + c) k K) n with
      | some (.fail, m) => runJ s lines f (.catj x xs i k c) sp K m
      | r => r
  | f + 1, .alt xs i k, sp, K, n => match xs with
    | [] => some (.fail, n)
    | x :: xs => match runJ s lines f (.try x i k) sp K n with
      | some (.fail, m) => runJ s lines f (.alt xs i k) sp K m
      | r => r
  | f + 1, .rep p x c i k, sp, K, n => if p.hi = -1 ∨ (c : Int) < p.hi then runJ s lines f (.repj p x c i k (repLow p c i) (k + 1 - repLow p c i)) sp K n else runJ s lines f (.repj p x c i k (repLow p c i) 0) sp K n
  | f + 1, .repj p x c i k lo q, sp, K, n => match q with
    | 0 => if i = k ∧ p.lo ≤ (c : Int) then runJ s lines f .next sp K n else some (.fail, n)
    | q + 1 => match runJ s lines f (.try x i (lo + q)) (unset sp (withinOf x)) (.rep p x (c + 1) (lo + q) k K) n with
      | some (.fail, m) => runJ s lines f (.repj p x c i k lo q) sp K m
      | r => r
  | f + 1, .next, sp, K, n => match K with
    | .done => some (.found sp, n)
    | .mark g i k K => runJ s lines f .next (sp.set (g - 1) ((i : Int), (k : Int))) K n
    | .cat xs j k K => runJ s lines f (.cat xs j k) sp K n
    | .rep p x c j k K => runJ s lines f (.rep p x c j k) sp K n
theorem runJ_sound (s : List UInt8) (lines : Bool) : ∀ (f : Nat) (J : Job) (sp : Spans) (K : Kont) (n : Nat) (o : Out) (m : Nat), runJ s lines f J sp K n = some (o, m) → Ev s lines J sp K n o m := by
  intro f
  induction f with
  | zero => intro J sp K n o m h; simp [runJ] at h
  | succ f ih =>
    intro J sp K n o m h
    cases J with
    | «try» e i k =>
      cases n with
      | zero => simp only [runJ, Option.some.injEq, Prod.mk.injEq] at h; obtain ⟨rfl, rfl⟩ := h; exact .tryOver
      | succ n =>
        obtain ⟨p, xs⟩ := e
        simp only [runJ] at h
        split at h
        · rename_i h3; exact .tryCat h3 (ih _ _ _ _ _ _ h)
        split at h
        · rename_i h4; exact .tryAlt h4 (ih _ _ _ _ _ _ h)
        split at h
        · rename_i h5
          split at h
          · exact .tryRep h5 (ih _ _ _ _ _ _ h)
          · cases h
        split at h
        · rename_i h6
          split at h
          · exact .tryGroup h6 (ih _ _ _ _ _ _ h)
          · cases h
        rename_i h3 h4 h5 h6
        have hnp : ¬ partOp p := by unfold partOp; omega
        split at h
        · rename_i hp; exact .leaf hnp hp (ih _ _ _ _ _ _ h)
        · rename_i hp
          simp only [Option.some.injEq, Prod.mk.injEq] at h
          obtain ⟨rfl, rfl⟩ := h
          exact .leafFail hnp (by simpa using hp)
    | cat xs i k =>
      match xs, h with
      | [x], h => exact .catOne (ih _ _ _ _ _ _ (by simpa only [runJ] using h))
      | x :: y :: ys, h => exact .catMore (ih _ _ _ _ _ _ (by simpa only [runJ] using h))
      | [], h => simp [runJ] at h
    | catj x xs i k c =>
      cases c with
      | zero => simp only [runJ, Option.some.injEq, Prod.mk.injEq] at h; obtain ⟨rfl, rfl⟩ := h; exact .catjNone
      | succ c =>
        simp only [runJ] at h
        split at h
        · rename_i m' hx; exact .catjMiss (ih _ _ _ _ _ _ hx) (ih _ _ _ _ _ _ h)
        · rename_i hy hx; exact .catjHit (ih _ _ _ _ _ _ h) (fun e => hx m (by rw [h, e]))
    | alt xs i k =>
      cases xs with
      | nil => simp only [runJ, Option.some.injEq, Prod.mk.injEq] at h; obtain ⟨rfl, rfl⟩ := h; exact .altNone
      | cons x xs =>
        simp only [runJ] at h
        split at h
        · rename_i m' hx; exact .altMiss (ih _ _ _ _ _ _ hx) (ih _ _ _ _ _ _ h)
        · rename_i hy hx; exact .altHit (ih _ _ _ _ _ _ h) (fun e => hx m (by rw [h, e]))
    | rep p x c i k =>
      simp only [runJ] at h
      split at h
      · rename_i hm; exact .repMay hm (ih _ _ _ _ _ _ h)
      · rename_i hm; exact .repNot hm (ih _ _ _ _ _ _ h)
    | repj p x c i k lo q =>
      cases q with
      | zero =>
        simp only [runJ] at h
        split at h
        · rename_i hm; exact .repjEnd hm (ih _ _ _ _ _ _ h)
        · rename_i hm
          simp only [Option.some.injEq, Prod.mk.injEq] at h
          obtain ⟨rfl, rfl⟩ := h
          exact .repjFail hm
      | succ q =>
        simp only [runJ] at h
        split at h
        · rename_i m' hx; exact .repjMiss (ih _ _ _ _ _ _ hx) (ih _ _ _ _ _ _ h)
        · rename_i hy hx; exact .repjHit (ih _ _ _ _ _ _ h) (fun e => hx m (by rw [h, e]))
    | next =>
      cases K with
      | done => simp only [runJ, Option.some.injEq, Prod.mk.injEq] at h; obtain ⟨rfl, rfl⟩ := h; exact .nextDone
      | mark g i k K => exact .nextMark (ih _ _ _ _ _ _ (by simpa only [runJ] using h))
      | cat xs j k K => exact .nextCat (ih _ _ _ _ _ _ (by simpa only [runJ] using h))
      | rep p x c j k K => exact .nextRep (ih _ _ _ _ _ _ (by simpa only [runJ] using h))
end Go.Proofs.Ythnpbopnpdlmnaa
