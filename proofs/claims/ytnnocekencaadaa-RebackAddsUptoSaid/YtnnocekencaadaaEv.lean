/- The search with back references, plainly: what a try comes to. -/
import Derived.Test.YtnnocekencaadaaCs
namespace Go.Proofs.Ytnnocekencaadaa

/-- The spans of the groups. -/
abbrev Spans := List (Int × Int)
/-- What follows a try that has succeeded. -/
inductive Kont where
  | done
  | mark (g : Nat) (i k : Nat) (next : Kont)
  | cat (xs : List Re) (j k : Nat) (next : Kont)
  | rep (p : Pay) (x : Re) (c j k : Nat) (next : Kont)
/-- What is to be done: a try; a list of trees, the loop over their first part's end (n ends are left); the alternatives; a repetition, the loop over its end (n ends are left); what follows. -/
inductive Job where
  | try (e : Re) (i k : Nat)
  | cat (xs : List Re) (i k : Nat)
  | catj (x : Re) (xs : List Re) (i k n : Nat)
  | alt (xs : List Re) (i k : Nat)
  | rep (p : Pay) (x : Re) (c i k : Nat)
  | repj (p : Pay) (x : Re) (c i k lo n : Nat)
  | next
inductive Out where
  | found (l : Spans)
  | fail
  | over

mutual
/-- The groups within a tree. -/
def withinOf : Re → List Nat
  | .mk p xs => (if p.op = 6 then [p.gr.toNat] else []) ++ withinAll xs
def withinAll : List Re → List Nat
  | [] => []
  | x :: xs => withinOf x ++ withinAll xs
end
def unset (sp : Spans) (gs : List Nat) : Spans := gs.foldl (fun l g => l.set (g - 1) (-1, -1)) sp

section
variable (s : List UInt8) (lines : Bool)
def byteAt (k : Nat) : UInt8 := s.getD k 0
/-- A node without parts. -/
def plainOf (p : Pay) (i k : Nat) (sp : Spans) : Bool :=
  if p.op = 1 then decide (k = i)
  else if p.op = 2 then decide (k = i + 1) && p.set.has (byteAt s i).toNat
  else if p.op = 7 then decide (k = i) && (decide (i = 0) || lines && decide (byteAt s (i - 1) = 10))
  else if p.op = 8 then decide (k = i) && (decide (i = s.length) || lines && decide (byteAt s i = 10))
  else let g := sp.getD (p.gr.toNat - 1) (-1, -1)
    decide (0 ≤ g.1) && decide ((k : Int) - i = g.2 - g.1) && decide ((s.drop i).take (k - i) = (s.drop g.1.toNat).take (k - i))
def partOp (p : Pay) : Prop := p.op = 3 ∨ p.op = 4 ∨ p.op = 5 ∨ p.op = 6
def mayRep (p : Pay) (c : Nat) : Prop := p.hi = -1 ∨ (c : Int) < p.hi
/-- The least end of a repetition, and how many ends there are. -/
def repLow (p : Pay) (c i : Nat) : Nat := if (c : Int) < p.lo then i else i + 1

/-- JOB, with these spans and what follows, n tries left: comes to this, and leaves so many tries. -/
inductive Ev : Job → Spans → Kont → Nat → Out → Nat → Prop where
  | tryOver {e i k sp K} : Ev (.try e i k) sp K 0 .over 0
  | leafFail {p xs i k sp K n} (h : ¬ partOp p) (hp : plainOf s lines p i k sp = false) : Ev (.try (.mk p xs) i k) sp K (n + 1) .fail n
  | leaf {p xs i k sp K n o m} (h : ¬ partOp p) (hp : plainOf s lines p i k sp = true) (hn : Ev .next sp K n o m) : Ev (.try (.mk p xs) i k) sp K (n + 1) o m
  | tryCat {p xs i k sp K n o m} (h : p.op = 3) (hn : Ev (.cat xs i k) sp K n o m) : Ev (.try (.mk p xs) i k) sp K (n + 1) o m
  | tryAlt {p xs i k sp K n o m} (h : p.op = 4) (hn : Ev (.alt xs i k) sp K n o m) : Ev (.try (.mk p xs) i k) sp K (n + 1) o m
  | tryRep {p x i k sp K n o m} (h : p.op = 5) (hn : Ev (.rep p x 0 i k) sp K n o m) : Ev (.try (.mk p [x]) i k) sp K (n + 1) o m
  | tryGroup {p x i k sp K n o m} (h : p.op = 6) (hn : Ev (.try x i k) sp (.mark p.gr.toNat i k K) n o m) : Ev (.try (.mk p [x]) i k) sp K (n + 1) o m
  | catOne {x i k sp K n o m} (hn : Ev (.try x i k) sp K n o m) : Ev (.cat [x] i k) sp K n o m
  | catMore {x y ys i k sp K n o m} (hn : Ev (.catj x (y :: ys) i k (k + 1 - i)) sp K n o m) : Ev (.cat (x :: y :: ys) i k) sp K n o m
  | catjNone {x xs i k sp K n} : Ev (.catj x xs i k 0) sp K n .fail n
  | catjHit {x xs i k c sp K n o m} (hn : Ev (.try x i (i + c)) sp (.cat xs (i + c) k K) n o m) (ho : o ≠ .fail) : Ev (.catj x xs i k (c + 1)) sp K n o m
  | catjMiss {x xs i k c sp K n o m m'} (hn : Ev (.try x i (i + c)) sp (.cat xs (i + c) k K) n .fail m) (hr : Ev (.catj x xs i k c) sp K m o m') : Ev (.catj x xs i k (c + 1)) sp K n o m'
  | altNone {i k sp K n} : Ev (.alt [] i k) sp K n .fail n
  | altHit {x xs i k sp K n o m} (hn : Ev (.try x i k) sp K n o m) (ho : o ≠ .fail) : Ev (.alt (x :: xs) i k) sp K n o m
  | altMiss {x xs i k sp K n o m m'} (hn : Ev (.try x i k) sp K n .fail m) (hr : Ev (.alt xs i k) sp K m o m') : Ev (.alt (x :: xs) i k) sp K n o m'
  | repMay {p x} {c : Nat} {i k sp K n o m} (h : mayRep p c) (hn : Ev (.repj p x c i k (repLow p c i) (k + 1 - repLow p c i)) sp K n o m) : Ev (.rep p x c i k) sp K n o m
  | repNot {p x} {c : Nat} {i k sp K n o m} (h : ¬ mayRep p c) (hn : Ev (.repj p x c i k (repLow p c i) 0) sp K n o m) : Ev (.rep p x c i k) sp K n o m
  | repjHit {p x c i k lo q sp K n o m} (hn : Ev (.try x i (lo + q)) (unset sp (withinOf x)) (.rep p x (c + 1) (lo + q) k K) n o m) (ho : o ≠ .fail) : Ev (.repj p x c i k lo (q + 1)) sp K n o m
  | repjMiss {p x c i k lo q sp K n o m m'} (hn : Ev (.try x i (lo + q)) (unset sp (withinOf x)) (.rep p x (c + 1) (lo + q) k K) n .fail m) (hr : Ev (.repj p x c i k lo q) sp K m o m') : Ev (.repj p x c i k lo (q + 1)) sp K n o m'
  | repjEnd {p x} {c i k lo : Nat} {sp K n o m} (h : i = k ∧ p.lo ≤ (c : Int)) (hn : Ev .next sp K n o m) : Ev (.repj p x c i k lo 0) sp K n o m
  | repjFail {p x} {c i k lo : Nat} {sp K n} (h : ¬ (i = k ∧ p.lo ≤ (c : Int))) : Ev (.repj p x c i k lo 0) sp K n .fail n
  | nextDone {sp n} : Ev .next sp .done n (.found sp) n
  | nextMark {g i k sp K n o m} (hn : Ev .next (sp.set (g - 1) ((i : Int), (k : Int))) K n o m) : Ev .next sp (.mark g i k K) n o m
  | nextCat {xs j k sp K n o m} (hn : Ev (.cat xs j k) sp K n o m) : Ev .next sp (.cat xs j k K) n o m
  | nextRep {p x c j k sp K n o m} (hn : Ev (.rep p x c j k) sp K n o m) : Ev .next sp (.rep p x c j k K) n o m

theorem Ev.left {J sp K n o m} (h : Ev s lines J sp K n o m) : m ≤ n ∧ (o = .over → m = 0) := by
  induction h with
  | tryOver => exact ⟨Nat.le_refl _, fun _ => rfl⟩
  | leafFail => exact ⟨Nat.le_succ _, fun h => by cases h⟩
  | catjNone => exact ⟨Nat.le_refl _, fun h => by cases h⟩
  | altNone => exact ⟨Nat.le_refl _, fun h => by cases h⟩
  | repjFail => exact ⟨Nat.le_refl _, fun h => by cases h⟩
  | nextDone => exact ⟨Nat.le_refl _, fun h => by cases h⟩
  | catjMiss _ _ h1 h2 => exact ⟨by omega, h2.2⟩
  | altMiss _ _ h1 h2 => exact ⟨by omega, h2.2⟩
  | repjMiss _ _ h1 h2 => exact ⟨by omega, h2.2⟩
  | leaf _ _ _ h => exact ⟨by omega, h.2⟩
  | tryCat _ _ h => exact ⟨by omega, h.2⟩
  | tryAlt _ _ h => exact ⟨by omega, h.2⟩
  | tryRep _ _ h => exact ⟨by omega, h.2⟩
  | tryGroup _ _ h => exact ⟨by omega, h.2⟩
  | catOne _ h => exact h
  | catMore _ h => exact h
  | catjHit _ _ h => exact h
  | altHit _ _ h => exact h
  | repMay _ _ h => exact h
  | repNot _ _ h => exact h
  | repjHit _ _ h => exact h
  | repjEnd _ _ h => exact h
  | nextMark _ h => exact h
  | nextCat _ h => exact h
  | nextRep _ h => exact h
theorem Ev.det {J sp K n o m} (h : Ev s lines J sp K n o m) : ∀ o' m', Ev s lines J sp K n o' m' → o = o' ∧ m = m' := by
  induction h with
  | tryOver => intro o' m' h'; cases h'; exact ⟨rfl, rfl⟩
  | leafFail h hp => intro o' m' h'; cases h' <;> first | exact ⟨rfl, rfl⟩ | (exfalso; simp_all [partOp]; done)
  | catjNone => intro o' m' h'; cases h'; exact ⟨rfl, rfl⟩
  | altNone => intro o' m' h'; cases h'; exact ⟨rfl, rfl⟩
  | repjFail h => intro o' m' h'; cases h' <;> first | exact ⟨rfl, rfl⟩ | (exfalso; contradiction)
  | nextDone => intro o' m' h'; cases h'; exact ⟨rfl, rfl⟩
  | leaf h hp hn ih => intro o' m' h'; clear hn; cases h' <;> first | exact ih _ _ (by assumption) | (exfalso; simp_all [partOp]; done)
  | tryCat h hn ih => intro o' m' h'; clear hn; cases h' <;> first | exact ih _ _ (by assumption) | (exfalso; simp_all [partOp]; done)
  | tryAlt h hn ih => intro o' m' h'; clear hn; cases h' <;> first | exact ih _ _ (by assumption) | (exfalso; simp_all [partOp]; done)
  | tryRep h hn ih => intro o' m' h'; clear hn; cases h' <;> first | exact ih _ _ (by assumption) | (exfalso; simp_all [partOp]; done)
  | tryGroup h hn ih => intro o' m' h'; clear hn; cases h' <;> first | exact ih _ _ (by assumption) | (exfalso; simp_all [partOp]; done)
  | catOne hn ih => intro o' m' h'; clear hn; cases h' <;> first | exact ih _ _ (by assumption) | (exfalso; simp_all [partOp]; done)
  | catMore hn ih => intro o' m' h'; clear hn; cases h' <;> first | exact ih _ _ (by assumption) | (exfalso; simp_all [partOp]; done)
  | repMay h hn ih => intro o' m' h'; clear hn; cases h' <;> first | exact ih _ _ (by assumption) | (exfalso; simp_all; done)
  | repNot h hn ih => intro o' m' h'; clear hn; cases h' <;> first | exact ih _ _ (by assumption) | (exfalso; simp_all; done)
  | repjEnd h hn ih => intro o' m' h'; clear hn; cases h' <;> first | exact ih _ _ (by assumption) | (exfalso; simp_all; done)
  | nextMark hn ih => intro o' m' h'; clear hn; cases h' <;> first | exact ih _ _ (by assumption) | (exfalso; simp_all [partOp]; done)
  | nextCat hn ih => intro o' m' h'; clear hn; cases h' <;> first | exact ih _ _ (by assumption) | (exfalso; simp_all [partOp]; done)
  | nextRep hn ih => intro o' m' h'; clear hn; cases h' <;> first | exact ih _ _ (by assumption) | (exfalso; simp_all [partOp]; done)
  | catjHit hn ho ih =>
    intro o' m' h'
    clear hn
    cases h' with
    | catjHit hn' ho' => exact ih _ _ hn'
    | catjMiss hn' hr' => exact absurd (ih _ _ hn').1 ho
  | catjMiss hn hr ih ih2 =>
    intro o' m' h'
    clear hn hr
    cases h' with
    | catjHit hn' ho' => exact absurd (ih _ _ hn').1.symm ho'
    | catjMiss hn' hr' =>
      obtain ⟨-, rfl⟩ := ih _ _ hn'
      exact ih2 _ _ hr'
  | altHit hn ho ih =>
    intro o' m' h'
    clear hn
    cases h' with
    | altHit hn' ho' => exact ih _ _ hn'
    | altMiss hn' hr' => exact absurd (ih _ _ hn').1 ho
  | altMiss hn hr ih ih2 =>
    intro o' m' h'
    clear hn hr
    cases h' with
    | altHit hn' ho' => exact absurd (ih _ _ hn').1.symm ho'
    | altMiss hn' hr' =>
      obtain ⟨-, rfl⟩ := ih _ _ hn'
      exact ih2 _ _ hr'
  | repjHit hn ho ih =>
    intro o' m' h'
    clear hn
    cases h' with
    | repjHit hn' ho' => exact ih _ _ hn'
    | repjMiss hn' hr' => exact absurd (ih _ _ hn').1 ho
  | repjMiss hn hr ih ih2 =>
    intro o' m' h'
    clear hn hr
    cases h' with
    | repjHit hn' ho' => exact absurd (ih _ _ hn').1.symm ho'
    | repjMiss hn' hr' =>
      obtain ⟨-, rfl⟩ := ih _ _ hn'
      exact ih2 _ _ hr'
theorem Ev.cost {J sp K n o m} (h : Ev s lines J sp K n o m) (ho : o ≠ .over) : ∀ n', (n - m ≤ n' → Ev s lines J sp K n' o (n' - (n - m))) ∧ (n' < n - m → Ev s lines J sp K n' .over 0) := by
  induction h with
  | tryOver => exact absurd rfl ho
  | @leafFail p xs i k sp K n h hp =>
    intro n'
    cases n' with
    | zero => exact ⟨fun hc => by omega, fun _ => .tryOver⟩
    | succ n' => exact ⟨fun hc => by rw [show n' + 1 - (n + 1 - n) = n' by omega]; exact .leafFail h hp, fun hc => by omega⟩
  | @leaf p xs i k sp K n o m h hp hn ih =>
    intro n'
    have hl := (Ev.left s lines hn).1
    cases n' with
    | zero => exact ⟨fun hc => by omega, fun _ => .tryOver⟩
    | succ n' => exact ⟨fun hc => by
        rw [show n' + 1 - (n + 1 - m) = n' - (n - m) by omega]
        exact Ev.leaf (s := s) (lines := lines) h hp ((ih ho n').1 (by omega)), fun hc => Ev.leaf (s := s) (lines := lines) h hp ((ih ho n').2 (by omega))⟩
  | @tryCat p xs i k sp K n o m h hn ih =>
    intro n'
    have hl := (Ev.left s lines hn).1
    cases n' with
    | zero => exact ⟨fun hc => by omega, fun _ => .tryOver⟩
    | succ n' => exact ⟨fun hc => by
        rw [show n' + 1 - (n + 1 - m) = n' - (n - m) by omega]
        exact Ev.tryCat (s := s) (lines := lines) h ((ih ho n').1 (by omega)), fun hc => Ev.tryCat (s := s) (lines := lines) h ((ih ho n').2 (by omega))⟩
  | @tryAlt p xs i k sp K n o m h hn ih =>
    intro n'
    have hl := (Ev.left s lines hn).1
    cases n' with
    | zero => exact ⟨fun hc => by omega, fun _ => .tryOver⟩
    | succ n' => exact ⟨fun hc => by
        rw [show n' + 1 - (n + 1 - m) = n' - (n - m) by omega]
        exact Ev.tryAlt (s := s) (lines := lines) h ((ih ho n').1 (by omega)), fun hc => Ev.tryAlt (s := s) (lines := lines) h ((ih ho n').2 (by omega))⟩
  | @tryRep p x i k sp K n o m h hn ih =>
    intro n'
    have hl := (Ev.left s lines hn).1
    cases n' with
    | zero => exact ⟨fun hc => by omega, fun _ => .tryOver⟩
    | succ n' => exact ⟨fun hc => by
        rw [show n' + 1 - (n + 1 - m) = n' - (n - m) by omega]
        exact Ev.tryRep (s := s) (lines := lines) h ((ih ho n').1 (by omega)), fun hc => Ev.tryRep (s := s) (lines := lines) h ((ih ho n').2 (by omega))⟩
  | @tryGroup p x i k sp K n o m h hn ih =>
    intro n'
    have hl := (Ev.left s lines hn).1
    cases n' with
    | zero => exact ⟨fun hc => by omega, fun _ => .tryOver⟩
    | succ n' => exact ⟨fun hc => by
        rw [show n' + 1 - (n + 1 - m) = n' - (n - m) by omega]
        exact Ev.tryGroup (s := s) (lines := lines) h ((ih ho n').1 (by omega)), fun hc => Ev.tryGroup (s := s) (lines := lines) h ((ih ho n').2 (by omega))⟩
  | catOne hn ih => intro n'; exact ⟨fun hc => .catOne ((ih ho n').1 hc), fun hc => .catOne ((ih ho n').2 hc)⟩
  | catMore hn ih => intro n'; exact ⟨fun hc => .catMore ((ih ho n').1 hc), fun hc => .catMore ((ih ho n').2 hc)⟩
  | repMay h hn ih => intro n'; exact ⟨fun hc => .repMay h ((ih ho n').1 hc), fun hc => .repMay h ((ih ho n').2 hc)⟩
  | repNot h hn ih => intro n'; exact ⟨fun hc => .repNot h ((ih ho n').1 hc), fun hc => .repNot h ((ih ho n').2 hc)⟩
  | repjEnd h hn ih => intro n'; exact ⟨fun hc => .repjEnd h ((ih ho n').1 hc), fun hc => .repjEnd h ((ih ho n').2 hc)⟩
  | nextMark hn ih => intro n'; exact ⟨fun hc => .nextMark ((ih ho n').1 hc), fun hc => .nextMark ((ih ho n').2 hc)⟩
  | nextCat hn ih => intro n'; exact ⟨fun hc => .nextCat ((ih ho n').1 hc), fun hc => .nextCat ((ih ho n').2 hc)⟩
  | nextRep hn ih => intro n'; exact ⟨fun hc => .nextRep ((ih ho n').1 hc), fun hc => .nextRep ((ih ho n').2 hc)⟩
  | catjNone => intro n'; exact ⟨fun hc => by rw [Nat.sub_self, Nat.sub_zero]; exact .catjNone, fun hc => by omega⟩
  | altNone => intro n'; exact ⟨fun hc => by rw [Nat.sub_self, Nat.sub_zero]; exact .altNone, fun hc => by omega⟩
  | nextDone => intro n'; exact ⟨fun hc => by rw [Nat.sub_self, Nat.sub_zero]; exact .nextDone, fun hc => by omega⟩
  | repjFail h => intro n'; exact ⟨fun hc => by rw [Nat.sub_self, Nat.sub_zero]; exact .repjFail h, fun hc => by omega⟩
  | catjHit hn hf ih => intro n'; exact ⟨fun hc => .catjHit ((ih ho n').1 hc) hf, fun hc => .catjHit ((ih ho n').2 hc) (by intro h; cases h)⟩
  | @catjMiss x xs i k c sp K n o m m' hn hr ih ih2 =>
    intro n'
    have h1 := (Ev.left s lines hn).1
    have h2 := (Ev.left s lines hr).1
    have hf : Out.fail ≠ .over := by intro h; cases h
    rcases Nat.lt_or_ge n' (n - m) with h3 | h3
    · exact ⟨fun hc => by omega, fun _ => .catjHit ((ih hf n').2 h3) (by intro h; cases h)⟩
    · refine ⟨fun hc => ?_, fun hc => ?_⟩
      · have h4 := (ih2 ho (n' - (n - m))).1 (by omega)
        rw [show n' - (n - m) - (m - m') = n' - (n - m') by omega] at h4
        exact .catjMiss ((ih hf n').1 h3) h4
      · exact .catjMiss ((ih hf n').1 h3) ((ih2 ho (n' - (n - m))).2 (by omega))
  | altHit hn hf ih => intro n'; exact ⟨fun hc => .altHit ((ih ho n').1 hc) hf, fun hc => .altHit ((ih ho n').2 hc) (by intro h; cases h)⟩
  | @altMiss x xs i k sp K n o m m' hn hr ih ih2 =>
    intro n'
    have h1 := (Ev.left s lines hn).1
    have h2 := (Ev.left s lines hr).1
    have hf : Out.fail ≠ .over := by intro h; cases h
    rcases Nat.lt_or_ge n' (n - m) with h3 | h3
    · exact ⟨fun hc => by omega, fun _ => .altHit ((ih hf n').2 h3) (by intro h; cases h)⟩
    · refine ⟨fun hc => ?_, fun hc => ?_⟩
      · have h4 := (ih2 ho (n' - (n - m))).1 (by omega)
        rw [show n' - (n - m) - (m - m') = n' - (n - m') by omega] at h4
        exact .altMiss ((ih hf n').1 h3) h4
      · exact .altMiss ((ih hf n').1 h3) ((ih2 ho (n' - (n - m))).2 (by omega))
  | repjHit hn hf ih => intro n'; exact ⟨fun hc => .repjHit ((ih ho n').1 hc) hf, fun hc => .repjHit ((ih ho n').2 hc) (by intro h; cases h)⟩
  | @repjMiss p x c i k lo q sp K n o m m' hn hr ih ih2 =>
    intro n'
    have h1 := (Ev.left s lines hn).1
    have h2 := (Ev.left s lines hr).1
    have hf : Out.fail ≠ .over := by intro h; cases h
    rcases Nat.lt_or_ge n' (n - m) with h3 | h3
    · exact ⟨fun hc => by omega, fun _ => .repjHit ((ih hf n').2 h3) (by intro h; cases h)⟩
    · refine ⟨fun hc => ?_, fun hc => ?_⟩
      · have h4 := (ih2 ho (n' - (n - m))).1 (by omega)
        rw [show n' - (n - m) - (m - m') = n' - (n - m') by omega] at h4
        exact .repjMiss ((ih hf n').1 h3) h4
      · exact .repjMiss ((ih hf n').1 h3) ((ih2 ho (n' - (n - m))).2 (by omega))
end
end Go.Proofs.Ytnnocekencaadaa
