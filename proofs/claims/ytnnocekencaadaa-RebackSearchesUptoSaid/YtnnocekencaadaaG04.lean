/- The search with back references, plainly: what a try comes to. -/
import Derived.Test.YtnnocekencaadaaG03
import Derived.Test.YtnnocekencaadaaProg
import Derived.Test.YtnnocekencaadaaG01
namespace Go.Proofs.Ytnnocekencaadaa

/-- The spans of the groups. -/
abbrev Spans := List (Int × Int)
/-- What follows a try that has succeeded. -/
inductive Kont where
  | done
  | mark (g : Nat) (i k : Nat) (next : Kont)
  | cat (xs : List Re) (j k : Nat) (next : Kont)
  | rep (p : Pay) (x : Re) (c j k : Nat) (next : Kont)
/-- What is to be done: a try; a list of trees, the loop over their first part's end (n ends are left); the alternatives; a repetition, the loop over its end (n ends are left); what follows. -/
inductive Job where
  | try (e : Re) (i k : Nat)
  | cat (xs : List Re) (i k : Nat)
  | catj (x : Re) (xs : List Re) (i k n : Nat)
  | alt (xs : List Re) (i k : Nat)
  | rep (p : Pay) (x : Re) (c i k : Nat)
  | repj (p : Pay) (x : Re) (c i k lo n : Nat)
  | next
inductive Out where
  | found (l : Spans)
  | fail
  | over

mutual
/-- The groups within a tree. -/
def withinOf : Re → List Nat
  | .mk p xs => (if p.op = 6 then [p.gr.toNat] else []) ++ withinAll xs
def withinAll : List Re → List Nat
  | [] => []
  | x :: xs => withinOf x ++ withinAll xs
end
def unset (sp : Spans) (gs : List Nat) : Spans := gs.foldl (fun l g => l.set (g - 1) (-1, -1)) sp

section
variable (s : List UInt8) (lines : Bool)
def byteAt (k : Nat) : UInt8 := s.getD k 0
/-- A node without parts. -/
def plainOf (p : Pay) (i k : Nat) (sp : Spans) : Bool :=
  if p.op = 1 then decide (k = i)
  else if p.op = 2 then decide (k = i + 1) && p.set.has (byteAt s i).toNat
  else if p.op = 7 then decide (k = i) && (decide (i = 0) || lines && decide (byteAt s (i - 1) = 10))
  else if p.op = 8 then decide (k = i) && (decide (i = s.length) || lines && decide (byteAt s i = 10))
  else let g := sp.getD (p.gr.toNat - 1) (-1, -1)
    decide (0 ≤ g.1) && decide ((k : Int) - i = g.2 - g.1) && decide ((s.drop i).take (k - i) = (s.drop g.1.toNat).take (k - i))
def partOp (p : Pay) : Prop := p.op = 3 ∨ p.op = 4 ∨ p.op = 5 ∨ p.op = 6
def mayRep (p : Pay) (c : Nat) : Prop := p.hi = -1 ∨ (c : Int) < p.hi
/-- The least end of a repetition, and how many ends there are. -/
def repLow (p : Pay) (c i : Nat) : Nat := if (c : Int) < p.lo then i else i + 1

/-- JOB, with these spans and what follows, n tries left: comes to this, and leaves so many tries. -/
inductive Ev : Job → Spans → Kont → Nat → Out → Nat → Prop where
  | tryOver {e i k sp K} : Ev (.try e i k) sp K 0 .over 0
  | leafFail {p xs i k sp K n} (h : ¬ partOp p) (hp : plainOf s lines p i k sp = false) : Ev (.try (.mk p xs) i k) sp K (n + 1) .fail n
  | leaf {p xs i k sp K n o m} (h : ¬ partOp p) (hp : plainOf s lines p i k sp = true) (hn : Ev .next sp K n o m) : Ev (.try (.mk p xs) i k) sp K (n + 1) o m
  | tryCat {p xs i k sp K n o m} (h : p.op = 3) (hn : Ev (.cat xs i k) sp K n o m) : Ev (.try (.mk p xs) i k) sp K (n + 1) o m
  | tryAlt {p xs i k sp K n o m} (h : p.op = 4) (hn : Ev (.alt xs i k) sp K n o m) : Ev (.try (.mk p xs) i k) sp K (n + 1) o m
  | tryRep {p x i k sp K n o m} (h : p.op = 5) (hn : Ev (.rep p x 0 i k) sp K n o m) : Ev (.try (.mk p [x]) i k) sp K (n + 1) o m
  | tryGroup {p x i k sp K n o m} (h : p.op = 6) (hn : Ev (.try x i k) sp (.mark p.gr.toNat i k K) n o m) : Ev (.try (.mk p [x]) i k) sp K (n + 1) o m
  | catOne {x i k sp K n o m} (hn : Ev (.try x i k) sp K n o m) : Ev (.cat [x] i k) sp K n o m
  | catMore {x y ys i k sp K n o m} (hn : Ev (.catj x (y :: ys) i k (k + 1 - i)) sp K n o m) : Ev (.cat (x :: y :: ys) i k) sp K n o m
  | catjNone {x xs i k sp K n} : Ev (.catj x xs i k 0) sp K n .fail n
  | catjHit {x xs i k c sp K n o m} (hn : Ev (.try x i (i + c)) sp (.cat xs (i + c) k K) n o m) (ho : o ≠ .fail) : Ev (.catj x xs i k (c + 1)) sp K n o m
  | catjMiss {x xs i k c sp K n o m m'} (hn : Ev (.try x i (i + c)) sp (.cat xs (i + c) k K) n .fail m) (hr : Ev (.catj x xs i k c) sp K m o m') : Ev (.catj x xs i k (c + 1)) sp K n o m'
  | altNone {i k sp K n} : Ev (.alt [] i k) sp K n .fail n
  | altHit {x xs i k sp K n o m} (hn : Ev (.try x i k) sp K n o m) (ho : o ≠ .fail) : Ev (.alt (x :: xs) i k) sp K n o m
  | altMiss {x xs i k sp K n o m m'} (hn : Ev (.try x i k) sp K n .fail m) (hr : Ev (.alt xs i k) sp K m o m') : Ev (.alt (x :: xs) i k) sp K n o m'
  | repMay {p x} {c : Nat} {i k sp K n o m} (h : mayRep p c) (hn : Ev (.repj p x c i k (repLow p c i) (k + 1 - repLow p c i)) sp K n o m) : Ev (.rep p x c i k) sp K n o m
  | repNot {p x} {c : Nat} {i k sp K n o m} (h : ¬ mayRep p c) (hn : Ev (.repj p x c i k (repLow p c i) 0) sp K n o m) : Ev (.rep p x c i k) sp K n o m
  | repjHit {p x c i k lo q sp K n o m} (hn : Ev (.try x i (lo + q)) (unset sp (withinOf x)) (.rep p x (c + 1) (lo + q) k K) n o m) (ho : o ≠ .fail) : Ev (.repj p x c i k lo (q + 1)) sp K n o m
  | repjMiss {p x c i k lo q sp K n o m m'} (hn : Ev (.try x i (lo + q)) (unset sp (withinOf x)) (.rep p x (c + 1) (lo + q) k K) n .fail m) (hr : Ev (.repj p x c i k lo q) sp K m o m') : Ev (.repj p x c i k lo (q + 1)) sp K n o m'
  | repjEnd {p x} {c i k lo : Nat} {sp K n o m} (h : i = k ∧ p.lo ≤ (c : Int)) (hn : Ev .next sp K n o m) : Ev (.repj p x c i k lo 0) sp K n o m
  | repjFail {p x} {c i k lo : Nat} {sp K n} (h : ¬ (i = k ∧ p.lo ≤ (c : Int))) : Ev (.repj p x c i k lo 0) sp K n .fail n
  | nextDone {sp n} : Ev .next sp .done n (.found sp) n
  | nextMark {g i k sp K n o m} (hn : Ev .next (sp.set (g - 1) ((i : Int), (k : Int))) K n o m) : Ev .next sp (.mark g i k K) n o m
  | nextCat {xs j k sp K n o m} (hn : Ev (.cat xs j k) sp K n o m) : Ev .next sp (.cat xs j k K) n o m
  | nextRep {p x c j k sp K n o m} (hn : Ev (.rep p x c j k) sp K n o m) : Ev .next sp (.rep p x c j k K) n o m

theorem Ev.left {J sp K n o m} (h : Ev s lines J sp K n o m) : m ≤ n ∧ (o = .over → m = 0) := by
  induction h with
  | tryOver => exact ⟨Nat.le_refl _, fun _ => rfl⟩
  | leafFail => exact ⟨Nat.le_succ _, fun h => by cases h⟩
  | catjNone => exact ⟨Nat.le_refl _, fun h => by cases h⟩
  | altNone => exact ⟨Nat.le_refl _, fun h => by cases h⟩
  | repjFail => exact ⟨Nat.le_refl _, fun h => by cases h⟩
  | nextDone => exact ⟨Nat.le_refl _, fun h => by cases h⟩
  | catjMiss _ _ h1 h2 => exact ⟨by omega, h2.2⟩
  | altMiss _ _ h1 h2 => exact ⟨by omega, h2.2⟩
  | repjMiss _ _ h1 h2 => exact ⟨by omega, h2.2⟩
  | leaf _ _ _ h => exact ⟨by omega, h.2⟩
  | tryCat _ _ h => exact ⟨by omega, h.2⟩
  | tryAlt _ _ h => exact ⟨by omega, h.2⟩
  | tryRep _ _ h => exact ⟨by omega, h.2⟩
  | tryGroup _ _ h => exact ⟨by omega, h.2⟩
  | catOne _ h => exact h
  | catMore _ h => exact h
  | catjHit _ _ h => exact h
  | altHit _ _ h => exact h
  | repMay _ _ h => exact h
  | repNot _ _ h => exact h
  | repjHit _ _ h => exact h
  | repjEnd _ _ h => exact h
  | nextMark _ h => exact h
  | nextCat _ h => exact h
  | nextRep _ h => exact h
theorem Ev.det {J sp K n o m} (h : Ev s lines J sp K n o m) : ∀ o' m', Ev s lines J sp K n o' m' → o = o' ∧ m = m' := by
  induction h with
  | tryOver => intro o' m' h'; cases h'; exact ⟨rfl, rfl⟩
  | leafFail h hp => intro o' m' h'; cases h' <;> first | exact ⟨rfl, rfl⟩ | (exfalso; simp_all [partOp]; done)
  | catjNone => intro o' m' h'; cases h'; exact ⟨rfl, rfl⟩
  | altNone => intro o' m' h'; cases h'; exact ⟨rfl, rfl⟩
  | repjFail h => intro o' m' h'; cases h' <;> first | exact ⟨rfl, rfl⟩ | (exfalso; contradiction)
  | nextDone => intro o' m' h'; cases h'; exact ⟨rfl, rfl⟩
  | leaf h hp hn ih => intro o' m' h'; clear hn; cases h' <;> first | exact ih _ _ (by assumption) | (exfalso; simp_all [partOp]; done)
  | tryCat h hn ih => intro o' m' h'; clear hn; cases h' <;> first | exact ih _ _ (by assumption) | (exfalso; simp_all [partOp]; done)
  | tryAlt h hn ih => intro o' m' h'; clear hn; cases h' <;> first | exact ih _ _ (by assumption) | (exfalso; simp_all [partOp]; done)
  | tryRep h hn ih => intro o' m' h'; clear hn; cases h' <;> first | exact ih _ _ (by assumption) | (exfalso; simp_all [partOp]; done)
  | tryGroup h hn ih => intro o' m' h'; clear hn; cases h' <;> first | exact ih _ _ (by assumption) | (exfalso; simp_all [partOp]; done)
  | catOne hn ih => intro o' m' h'; clear hn; cases h' <;> first | exact ih _ _ (by assumption) | (exfalso; simp_all [partOp]; done)
  | catMore hn ih => intro o' m' h'; clear hn; cases h' <;> first | exact ih _ _ (by assumption) | (exfalso; simp_all [partOp]; done)
  | repMay h hn ih => intro o' m' h'; clear hn; cases h' <;> first | exact ih _ _ (by assumption) | (exfalso; simp_all; done)
  | repNot h hn ih => intro o' m' h'; clear hn; cases h' <;> first | exact ih _ _ (by assumption) | (exfalso; simp_all; done)
  | repjEnd h hn ih => intro o' m' h'; clear hn; cases h' <;> first | exact ih _ _ (by assumption) | (exfalso; simp_all; done)
  | nextMark hn ih => intro o' m' h'; clear hn; cases h' <;> first | exact ih _ _ (by assumption) | (exfalso; simp_all [partOp]; done)
  | nextCat hn ih => intro o' m' h'; clear hn; cases h' <;> first | exact ih _ _ (by assumption) | (exfalso; simp_all [partOp]; done)
  | nextRep hn ih => intro o' m' h'; clear hn; cases h' <;> first | exact ih _ _ (by assumption) | (exfalso; simp_all [partOp]; done)
  | catjHit hn ho ih =>
    intro o' m' h'
    clear hn
    cases h' with
    | catjHit hn' ho' => exact ih _ _ hn'
    | catjMiss hn' hr' => exact absurd (ih _ _ hn').1 ho
  | catjMiss hn hr ih ih2 =>
    intro o' m' h'
    clear hn hr
    cases h' with
    | catjHit hn' ho' => exact absurd (ih _ _ hn').1.symm ho'
    | catjMiss hn' hr' =>
      obtain ⟨-, rfl⟩ := ih _ _ hn'
      exact ih2 _ _ hr'
  | altHit hn ho ih =>
    intro o' m' h'
    clear hn
    cases h' with
    | altHit hn' ho' => exact ih _ _ hn'
    | altMiss hn' hr' => exact absurd (ih _ _ hn').1 ho
  | altMiss hn hr ih ih2 =>
    intro o' m' h'
    clear hn hr
    cases h' with
    | altHit hn' ho' => exact absurd (ih _ _ hn').1.symm ho'
    | altMiss hn' hr' =>
      obtain ⟨-, rfl⟩ := ih _ _ hn'
      exact ih2 _ _ hr'
  | repjHit hn ho ih =>
    intro o' m' h'
    clear hn
    cases h' with
    | repjHit hn' ho' => exact ih _ _ hn'
    | repjMiss hn' hr' => exact absurd (ih _ _ hn').1 ho
  | repjMiss hn hr ih ih2 =>
    intro o' m' h'
    clear hn hr
    cases h' with
    | repjHit hn' ho' => exact absurd (ih _ _ hn').1.symm ho'
    | repjMiss hn' hr' =>
      obtain ⟨-, rfl⟩ := ih _ _ hn'
      exact ih2 _ _ hr'
theorem Ev.cost {J sp K n o m} (h : Ev s lines J sp K n o m) (ho : o ≠ .over) : ∀ n', (n - m ≤ n' → Ev s lines J sp K n' o (n' - (n - m))) ∧ (n' < n - m → Ev s lines J sp K n' .over 0) := by
  induction h with
  | tryOver => exact absurd rfl ho
  | @leafFail p xs i k sp K n h hp =>
    intro n'
    cases n' with
    | zero => exact ⟨fun hc => by omega, fun _ => .tryOver⟩
    | succ n' => exact ⟨fun hc => by rw [show n' + 1 - (n + 1 - n) = n' by omega]; exact .leafFail h hp, fun hc => by omega⟩
  | @leaf p xs i k sp K n o m h hp hn ih =>
    intro n'
    have hl := (Ev.left s lines hn).1
    cases n' with
    | zero => exact ⟨fun hc => by omega, fun _ => .tryOver⟩
    | succ n' => exact ⟨fun hc => by
        rw [show n' + 1 - (n + 1 - m) = n' - (n - m) by omega]
        exact Ev.leaf (s := s) (lines := lines) h hp ((ih ho n').1 (by omega)), fun hc => Ev.leaf (s := s) (lines := lines) h hp ((ih ho n').2 (by omega))⟩
  | @tryCat p xs i k sp K n o m h hn ih =>
    intro n'
    have hl := (Ev.left s lines hn).1
    cases n' with
    | zero => exact ⟨fun hc => by omega, fun _ => .tryOver⟩
    | succ n' => exact ⟨fun hc => by
        rw [show n' + 1 - (n + 1 - m) = n' - (n - m) by omega]
        exact Ev.tryCat (s := s) (lines := lines) h ((ih ho n').1 (by omega)), fun hc => Ev.tryCat (s := s) (lines := lines) h ((ih ho n').2 (by omega))⟩
  | @tryAlt p xs i k sp K n o m h hn ih =>
    intro n'
    have hl := (Ev.left s lines hn).1
    cases n' with
    | zero => exact ⟨fun hc => by omega, fun _ => .tryOver⟩
    | succ n' => exact ⟨fun hc => by
        rw [show n' + 1 - (n + 1 - m) = n' - (n - m) by omega]
        exact Ev.tryAlt (s := s) (lines := lines) h ((ih ho n').1 (by omega)), fun hc => Ev.tryAlt (s := s) (lines := lines) h ((ih ho n').2 (by omega))⟩
  | @tryRep p x i k sp K n o m h hn ih =>
    intro n'
    have hl := (Ev.left s lines hn).1
    cases n' with
    | zero => exact ⟨fun hc => by omega, fun _ => .tryOver⟩
    | succ n' => exact ⟨fun hc => by
        rw [show n' + 1 - (n + 1 - m) = n' - (n - m) by omega]
        exact Ev.tryRep (s := s) (lines := lines) h ((ih ho n').1 (by omega)), fun hc => Ev.tryRep (s := s) (lines := lines) h ((ih ho n').2 (by omega))⟩
  | @tryGroup p x i k sp K n o m h hn ih =>
    intro n'
    have hl := (Ev.left s lines hn).1
    cases n' with
    | zero => exact ⟨fun hc => by omega, fun _ => .tryOver⟩
    | succ n' => exact ⟨fun hc => by
        rw [show n' + 1 - (n + 1 - m) = n' - (n - m) by omega]
        exact Ev.tryGroup (s := s) (lines := lines) h ((ih ho n').1 (by omega)), fun hc => Ev.tryGroup (s := s) (lines := lines) h ((ih ho n').2 (by omega))⟩
  | catOne hn ih => intro n'; exact ⟨fun hc => .catOne ((ih ho n').1 hc), fun hc => .catOne ((ih ho n').2 hc)⟩
  | catMore hn ih => intro n'; exact ⟨fun hc => .catMore ((ih ho n').1 hc), fun hc => .catMore ((ih ho n').2 hc)⟩
  | repMay h hn ih => intro n'; exact ⟨fun hc => .repMay h ((ih ho n').1 hc), fun hc => .repMay h ((ih ho n').2 hc)⟩
  | repNot h hn ih => intro n'; exact ⟨fun hc => .repNot h ((ih ho n').1 hc), fun hc => .repNot h ((ih ho n').2 hc)⟩
  | repjEnd h hn ih => intro n'; exact ⟨fun hc => .repjEnd h ((ih ho n').1 hc), fun hc => .repjEnd h ((ih ho n').2 hc)⟩
  | nextMark hn ih => intro n'; exact ⟨fun hc => .nextMark ((ih ho n').1 hc), fun hc => .nextMark ((ih ho n').2 hc)⟩
  | nextCat hn ih => intro n'; exact ⟨fun hc => .nextCat ((ih ho n').1 hc), fun hc => .nextCat ((ih ho n').2 hc)⟩
  | nextRep hn ih => intro n'; exact ⟨fun hc => .nextRep ((ih ho n').1 hc), fun hc => .nextRep ((ih ho n').2 hc)⟩
  | catjNone => intro n'; exact ⟨fun hc => by rw [Nat.sub_self, Nat.sub_zero]; exact .catjNone, fun hc => by omega⟩
  | altNone => intro n'; exact ⟨fun hc => by rw [Nat.sub_self, Nat.sub_zero]; exact .altNone, fun hc => by omega⟩
  | nextDone => intro n'; exact ⟨fun hc => by rw [Nat.sub_self, Nat.sub_zero]; exact .nextDone, fun hc => by omega⟩
  | repjFail h => intro n'; exact ⟨fun hc => by rw [Nat.sub_self, Nat.sub_zero]; exact .repjFail h, fun hc => by omega⟩
  | catjHit hn hf ih => intro n'; exact ⟨fun hc => .catjHit ((ih ho n').1 hc) hf, fun hc => .catjHit ((ih ho n').2 hc) (by intro h; cases h)⟩
  | @catjMiss x xs i k c sp K n o m m' hn hr ih ih2 =>
    intro n'
    have h1 := (Ev.left s lines hn).1
    have h2 := (Ev.left s lines hr).1
    have hf : Out.fail ≠ .over := by intro h; cases h
    rcases Nat.lt_or_ge n' (n - m) with h3 | h3
    · exact ⟨fun hc => by omega, fun _ => .catjHit ((ih hf n').2 h3) (by intro h; cases h)⟩
    · refine ⟨fun hc => ?_, fun hc => ?_⟩
      · have h4 := (ih2 ho (n' - (n - m))).1 (by omega)
        rw [show n' - (n - m) - (m - m') = n' - (n - m') by omega] at h4
        exact .catjMiss ((ih hf n').1 h3) h4
      · exact .catjMiss ((ih hf n').1 h3) ((ih2 ho (n' - (n - m))).2 (by omega))
  | altHit hn hf ih => intro n'; exact ⟨fun hc => .altHit ((ih ho n').1 hc) hf, fun hc => .altHit ((ih ho n').2 hc) (by intro h; cases h)⟩
  | @altMiss x xs i k sp K n o m m' hn hr ih ih2 =>
    intro n'
    have h1 := (Ev.left s lines hn).1
    have h2 := (Ev.left s lines hr).1
    have hf : Out.fail ≠ .over := by intro h; cases h
    rcases Nat.lt_or_ge n' (n - m) with h3 | h3
    · exact ⟨fun hc => by omega, fun _ => .altHit ((ih hf n').2 h3) (by intro h; cases h)⟩
    · refine ⟨fun hc => ?_, fun hc => ?_⟩
      · have h4 := (ih2 ho (n' - (n - m))).1 (by omega)
        rw [show n' - (n - m) - (m - m') = n' - (n - m') by omega] at h4
        exact .altMiss ((ih hf n').1 h3) h4
      · exact .altMiss ((ih hf n').1 h3) ((ih2 ho (n' - (n - m))).2 (by omega))
  | repjHit hn hf ih => intro n'; exact ⟨fun hc => .repjHit ((ih ho n').1 hc) hf, fun hc => .repjHit ((ih ho n').2 hc) (by intro h; cases h)⟩
  | @repjMiss p x c i k lo q sp K n o m m' hn hr ih ih2 =>
    intro n'
    have h1 := (Ev.left s lines hn).1
    have h2 := (Ev.left s lines hr).1
    have hf : Out.fail ≠ .over := by intro h; cases h
    rcases Nat.lt_or_ge n' (n - m) with h3 | h3
    · exact ⟨fun hc => by omega, fun _ => .repjHit ((ih hf n').2 h3) (by intro h; cases h)⟩
    · refine ⟨fun hc => ?_, fun hc => ?_⟩
      · have h4 := (ih2 ho (n' - (n - m))).1 (by omega)
        rw [show n' - (n - m) - (m - m') = n' - (n - m') by omega] at h4
        exact .repjMiss ((ih hf n').1 h3) h4
      · exact .repjMiss ((ih hf n').1 h3) ((ih2 ho (n' - (n - m))).2 (by omega))
end
end Go.Proofs.Ytnnocekencaadaa

/- The numbers of nodes of a tree: what each call that counts them returns. -/
namespace Go.Proofs.Ytnnocekencaadaa
open Go.RowKit

mutual
/-- The number of nodes whose operator fits. -/
def Re.count (q : Int → Bool) : Re → Nat
  | .mk p xs => Re.counts q xs + if q p.op then 1 else 0
def Re.counts (q : Int → Bool) : List Re → Nat
  | [] => 0
  | t :: ts => t.count q + Re.counts q ts
end
def Re.size (t : Re) : Nat := t.count fun _ => true
def Re.sizes (l : List Re) : Nat := Re.counts (fun _ => true) l
def Re.groups (t : Re) : Nat := t.count (· == 6)
def Re.backs (t : Re) : Nat := t.count (· == 9)
theorem Re.size_mk (p : Pay) (xs : List Re) : (Re.mk p xs).size = Re.sizes xs + 1 := by simp [Re.size, Re.count, Re.sizes]
theorem Re.counts_take (q : Int → Bool) : ∀ (xs : List Re) (i : Nat) (a : Re), xs[i]? = some a → Re.counts q (xs.take (i + 1)) = Re.counts q (xs.take i) + a.count q
  | t :: ts, 0, a, h => by simp at h; subst h; simp [Re.counts]
  | t :: ts, i + 1, a, h => by
    have := Re.counts_take q ts i a (by simpa using h)
    simp [Re.counts, this]; omega
theorem Re.counts_take_le (q : Int → Bool) : ∀ (xs : List Re) (i : Nat), Re.counts q (xs.take i) ≤ Re.counts q xs
  | [], i => by simp
  | t :: ts, 0 => by simp [Re.counts]
  | t :: ts, i + 1 => by have := Re.counts_take_le q ts i; simp [Re.counts]; omega
mutual
theorem Re.count_le (q : Int → Bool) : ∀ t : Re, t.count q ≤ t.size
  | .mk p xs => by have := Re.counts_le q xs; rw [Re.size_mk, Re.count]; split <;> omega
theorem Re.counts_le (q : Int → Bool) : ∀ xs : List Re, Re.counts q xs ≤ Re.sizes xs
  | [] => by simp [Re.counts, Re.sizes]
  | t :: ts => by have h1 := Re.count_le q t; have h2 := Re.counts_le q ts; simp only [Re.sizes, Re.counts, Re.size] at *; omega
end
theorem Re.sizes_len : ∀ (xs : List Re), xs.length ≤ Re.sizes xs
  | [] => by simp
  | .mk p l :: ts => by have := Re.sizes_len ts; simp [Re.sizes, Re.counts, Re.count] at *; omega
theorem Re.size_get {xs : List Re} {i : Nat} {a : Re} (h : xs[i]? = some a) : a.size ≤ Re.sizes xs := by
  have h1 := Re.counts_take (fun _ => true) xs i a h
  have h2 := Re.counts_take_le (fun _ => true) xs (i + 1)
  simp only [Re.sizes, Re.size] at *; omega
theorem size_re : (Try.prog.info? 28).map (·.size) = some 9 := by kernel_rfl

theorem size_re9 (a b c d e f g h i : Value) : (Try.prog.info? 28).map (·.size) = some [a, b, c, d, e, f, g, h, i].length := size_re

/-- A child, wherever the world has gone on. -/
theorem Re.AllIn.kid {wb wr : World} {xs : List Re} {ad : Option Addr} (h : Re.AllIn wb xs ad 0) (hb : Below wb.heap.size wb wr) (k : Nat) (hk : k < xs.length) :
    ∃ (b o : Nat) (p : Pay) (ad' : Option Addr) (n' cap' : Nat), ad = some ⟨b, o, none⟩ ∧ Hid (CellsAt wr b (o + k * 9) [.int .i64 p.op, .int .u64 p.set.a, .int .u64 p.set.b, .int .u64 p.set.c, .int .u64 p.set.d, .int .i64 p.lo, .int .i64 p.hi, .int .i64 p.gr, .slice ad' n' cap']) ∧
      Hid (Re.In wb xs[k] [.int .i64 p.op, .int .u64 p.set.a, .int .u64 p.set.b, .int .u64 p.set.c, .int .u64 p.set.d, .int .i64 p.lo, .int .i64 p.hi, .int .i64 p.gr, .slice ad' n' cap']) ∧ b < wb.heap.size := by
  obtain ⟨b, o, cs, h1, h2, h3⟩ := h.get k xs[k] (by simp [hk])
  have hn := h3.nine
  have hb2 : b < wb.heap.size := h2.block (by rintro rfl; simp at hn)
  cases hx : xs[k] with
  | mk p ys =>
    rw [hx, Re.In] at h3
    obtain ⟨ad', cap', rfl, h3⟩ := h3
    refine ⟨b, o, p, ad', ys.length, cap', h1, ?_, ?_, hb2⟩
    · have := h2.below hb
      show CellsAt _ _ _ _
      simpa [Pay.cells] using this
    · show Re.In _ _ _
      rw [Re.In]
      exact ⟨ad', cap', rfl, h3⟩

/-- Does an operator count? -/
def hits (op o : Int) : Bool := op == 0 || o == op
def tick (op o : Int) : Nat := if hits op o then 1 else 0

set_option maxHeartbeats 400000 in
theorem count1_any (p : Pay) (sl : Value) (op n : Int) (Bo Bn : Nat) (w : World) (ho : Row w Bo [.int .i64 op] 3) (hn : Row w Bn [.int .i64 n] 3) (h0 : 0 ≤ n) (h1 : n ≤ 1048576) :
    Calls Try.prog 63 #[.agg #[.int .i64 p.op, .int .u64 p.set.a, .int .u64 p.set.b, .int .u64 p.set.c, .int .u64 p.set.d, .int .i64 p.lo, .int .i64 p.hi, .int .i64 p.gr, sl], .pointer (some ⟨Bo, 0, none⟩), .pointer (some ⟨Bn, 0, none⟩)] w fun e w' =>
      e = .returned (.tuple #[]) ∧ But [Bn] w w' ∧ Row w' Bn [.int .i64 (n + (tick op p.op : Nat))] 3 := by
  have o1 := ho.c1
  have o2 := hn.c1
  have o3 := ho.lt
  have o4 := hn.lt
  have HN := hid hn
  clear ho hn
  by_cases c0 : op = 0
  · obtain rfl := c0
    go_enter Try.func63, Try.ntmps63
    go_wp2
    go_end0
    exact ⟨rfl, ((But.refl _ _).setCell (by simp) _).alloc _, by simpa [tick, hits] using (HN.out.set 0 (.int .i64 (n + 1))).alloc _⟩
  · have d0 : (op == 0) = false := by simpa using c0
    have H0 := hid d0
    by_cases c1 : p.op = op
    · have d1 : (p.op == op) = true := by simpa using c1
      have H1 := hid d1
      clear c1 c0
      go_enter Try.func63, Try.ntmps63
      go_wp2
      go_end0
      exact ⟨rfl, ((But.refl _ _).setCell (by simp) _).alloc _, by simpa [tick, hits, H0.out, H1.out] using (HN.out.set 0 (.int .i64 (n + 1))).alloc _⟩
    · have d1 : (p.op == op) = false := by simpa using c1
      have H1 := hid d1
      clear c1 c0
      go_enter Try.func63, Try.ntmps63
      go_wp2
      go_end0
      exact ⟨rfl, (But.refl _ _).alloc _, by simpa [tick, hits, H0.out, H1.out] using HN.out.alloc _⟩

set_option maxHeartbeats 1000000 in
theorem walk_any (op : Int) (Bo Bn : Nat) (wb : World) (_hBo : wb.heap.size ≤ Bo) (hBn : wb.heap.size ≤ Bn) (hne : Bo ≠ Bn) (t : Re) : ∀ (w : World) (cs : List Value) (n : Nat), t.In wb cs → Below wb.heap.size wb w → Row w Bo [.int .i64 op] 3 → Row w Bn [.int .i64 n] 3 → n + t.size ≤ 1048576 →
    Calls Try.prog 62 #[.agg cs.toArray, .func (.func 63) #[] #[.pointer (some ⟨Bo, 0, none⟩), .pointer (some ⟨Bn, 0, none⟩)]] w fun e w' =>
      e = .returned (.tuple #[]) ∧ But [Bn] w w' ∧ Row w' Bn [.int .i64 (n + t.count (hits op) : Nat)] 3 := by
  induction t using Re.ind with
  | h p xs ih =>
    intro w cs n hIn hbw ho hn hsz
    rw [Re.In] at hIn
    obtain ⟨ad, cap, rfl, hwf, hlc, hcm, hnil, hall⟩ := hIn
    rw [Re.size_mk] at hsz
    have hlen := Re.sizes_len xs
    have hsw := hbw.size
    have HBW := hid hbw
    have HO := hid ho
    have HN := hid hn
    have HIH := hid ih
    have HAL := hid hall
    have HNE := hid hne
    clear ih hall hbw ho hn hne
    simp only [Pay.cells]
    go_enter Try.func62, Try.ntmps62
    go_wp2_with fail
    refine (count1_any p (.slice ad xs.length cap) op n Bo Bn _ (HO.out.alloc _) (HN.out.alloc _) (by omega) (by omega)).mono ?_
    rintro e w1 ⟨rfl, hb1, hr1⟩
    have hbox : Row w1 w.heap.size (p.cells (.slice ad xs.length cap)) 28 := (Row.new (w := w) (cs := p.cells (.slice ad xs.length cap)) rfl).but hb1 (by have := HN.out.lt; simp; omega)
    have q1 := hbox.c9
    have HB1 := hid hb1
    have HR1 := hid hr1
    have HBX := hid hbox
    have hs1 := hb1.size
    clear hb1 hr1 hbox
    have hbw1 : Hid (Below wb.heap.size wb w1) := HBW.out.trans (((Below.refl _ w).alloc (Nat.le_refl _) _).mono hsw |>.trans (HB1.out.below (by simp; omega) (by simp; omega)))
    have hbut1 : Hid (But [Bn] w w1) := ((But.refl _ w).alloc _).trans HB1.out
    have ho1 : Hid (Row w1 Bo [.int .i64 op] 3) := (HO.out.alloc _).but HB1.out (by simpa using HNE.out)
    have hwl := HN.out.lt
    clear HB1 HO HN HBW
    go_wp2_with fail
    go_loopw [12] (fun i wr => ∃ k : Nat, k ≤ xs.length ∧ i = .int .i64 k ∧ Hid (Row wr Bn [.int .i64 ((n + Re.counts (hits op) (xs.take k) + tick op p.op : Nat) : Int)] 3 ∧ But [Bn] w wr ∧ Row wr Bo [.int .i64 op] 3 ∧ Below wb.heap.size wb wr)) (fun i _ => xs.length - (intOf i).toNat)
    case atStart => exact ⟨0, by omega, rfl, by simpa [Re.counts] using HR1.out, hbut1.out, ho1.out, hbw1.out⟩
    case round =>
      obtain ⟨k, hk, rfl, HX⟩ := hrel
      by_cases hlt : k < xs.length
      · obtain ⟨b, o, p', ad', n', cap', rfl, HC, HI0, hbb⟩ := HAL.out.kid HX.out.2.2.2 k hlt
        have hct := Re.counts_take (hits op) xs k xs[k] (by simp [hlt])
        have hcl := Re.counts_le (hits op) xs
        have hc1 := Re.counts_take_le (hits op) xs (k + 1)
        have hsz1 := Re.size_get (xs := xs) (i := k) (a := xs[k]) (by simp [hlt])
        have hst := Re.counts_take (fun _ => true) xs k xs[k] (by simp [hlt])
        have hst1 := Re.counts_take_le (fun _ => true) xs (k + 1)
        have hcl2 := Re.counts_le (hits op) (xs.take k)
        simp only [Re.sizes, Re.size] at *
        have hcall := HIH.out xs[k] (by simp) (wr.alloc (.cells #[.int .i64 p'.op, .int .u64 p'.set.a, .int .u64 p'.set.b, .int .u64 p'.set.c, .int .u64 p'.set.d, .int .i64 p'.lo, .int .i64 p'.hi, .int .i64 p'.gr, .slice ad' n' cap'] 28)) _ (n + Re.counts (hits op) (xs.take k) + tick op p.op) HI0.out (HX.out.2.2.2.alloc (Nat.le_trans hsw (by have := HX.out.2.1.size; omega)) _) (HX.out.2.2.1.alloc _) (HX.out.1.alloc _) (by unfold tick; split <;> omega)
        have HCA := hid hcall
        have hct' := hid hct
        have hwr := HX.out.2.1.size
        clear hcall hct hc1 hcl hsz1 hst hst1 hcl2
        go_wp2_with (first | (with_reducible (refine wpList_load_agg rfl 28 _ rfl b (o + (k * 9)) rfl _ _ HC.out Try.underlying28 rfl (size_re9 _ _ _ _ _ _ _ _ _) ?_)))
        refine HCA.out.mono ?_
        rintro e w2 ⟨rfl, hb2, hr2⟩
        have HB2 := hid hb2
        have HR2 := hid hr2
        clear hb2 hr2 HCA
        go_wp2_with fail
        go_roundw
        case rel =>
          refine ⟨k + 1, by omega, by go_num, ?_, (HX.out.2.1.alloc _).trans HB2.out, (HX.out.2.2.1.alloc _).but HB2.out (by simpa using HNE.out), ?_⟩
          · have := HR2.out
            rw [hct'.out]
            rwa [show n + (Re.counts (hits op) (List.take k xs) + xs[k].count (hits op)) + tick op p.op = n + Re.counts (hits op) (List.take k xs) + tick op p.op + xs[k].count (hits op) by omega]
          · exact HX.out.2.2.2.trans (((Below.refl _ wr).alloc (Nat.le_refl _) _).mono (by omega) |>.trans (HB2.out.below (by simp; omega) (by simp; omega)))
        case measure => simp [intOf]; omega
      · obtain rfl : k = xs.length := by omega
        go_wp2
        go_end0
        refine ⟨rfl, HX.out.2.1, ?_⟩
        have := HX.out.1
        simpa [Re.count, Nat.add_assoc, tick] using this

theorem nat_of_hits (op : Int) (hop : op ≠ 0) (t : Re) : t.count (hits op) = t.count (· == op) := by
  have e : hits op = (· == op) := by funext o; unfold hits; simp [hop]
  rw [e]

theorem count_any (op : Int) (t : Re) (w : World) (cs : List Value) (hIn : t.In w cs) (hsz : t.size ≤ 1048576) :
    Calls Try.prog 44 #[.agg cs.toArray, .int .i64 op] w fun e w' => e = .returned (.int .i64 (t.count (hits op) : Nat)) ∧ Below w.heap.size w w' := by
  cases t with
  | mk p xs =>
    have hIn' := hIn
    rw [Re.In] at hIn
    obtain ⟨ad, cap, rfl, _⟩ := hIn
    simp only [Pay.cells]
    have HI := hid hIn'
    clear hIn'
    go_enter Try.func44, Try.ntmps44
    go_wp2_with fail
    refine (walk_any op (w.heap.size + 1) (w.heap.size + 2) w (by omega) (by omega) (by omega) (.mk p xs) _ _ 0 HI.out ?_ ?_ ?_ (by omega)).mono ?_
    · exact (((Below.refl _ w).alloc (Nat.le_refl _) _).alloc (by simp) _).alloc (by simp; omega) _
    · exact (Row.new (cs := [_]) (by simp)).alloc _
    · exact Row.new (cs := [_]) (by simp)
    rintro e w1 ⟨rfl, hb, hr⟩
    have q := hr.c1
    have HB := hid hb
    clear hr hb
    go_wp2_with fail
    go_ret
    refine ⟨ret_int (by simp), ?_⟩
    exact ((((Below.refl _ w).alloc (Nat.le_refl _) _).alloc (by simp) _).alloc (by simp; omega) _).trans (HB.out.below (by simp; omega) (by simp))

-- def RESSize := (.int .i64 (Re.size t : Nat))
-- def RESGroups := (.int .i64 (Re.groups t : Nat))
-- def RESBack := (.bool (decide (0 < Re.backs t)))
-- def ENDSize := ret_int (by simp [Re.size]; rfl)
-- def ENDGroups := ret_int (by rw [nat_of_hits 6 (by decide)]; rfl)
-- def ENDBack := ret_bool (by rw [nat_of_hits 9 (by decide)]; exact decide_eq_decide.2 (by unfold Re.backs; omega))
theorem Groups_any (t : Re) (w : World) (cs : List Value) (hIn : t.In w cs) (hsz : t.size ≤ 1048576) :
    Calls Try.prog 25 #[.agg cs.toArray] w fun e w' => e = .returned (.int .i64 (Re.groups t : Nat)) ∧ Below w.heap.size w w' := by
  cases t with
  | mk p xs =>
    have hIn' := hIn
    rw [Re.In] at hIn
    obtain ⟨ad, cap, rfl, _⟩ := hIn
    simp only [Pay.cells]
    have HI := hid hIn'
    clear hIn'
    go_enter Try.func25, Try.ntmps25
    go_wp2_with fail
    refine (count_any _ (.mk p xs) _ _ (HI.out.below ((Below.refl _ w).alloc (Nat.le_refl _) _)) hsz).mono ?_
    rintro e w1 ⟨rfl, hb⟩
    have HB := hid hb
    clear hb
    go_wp2_with fail
    all_goals go_ret
    all_goals refine ⟨ret_int (by rw [nat_of_hits 6 (by decide)]; rfl), ((Below.refl _ w).alloc (Nat.le_refl _) _).trans (HB.out.mono (by simp))⟩
end Go.Proofs.Ytnnocekencaadaa
