/- The search with back references, plainly: what a try comes to. -/
import Derived.Test.YthnpbopnpdlmnaaB04
import Derived.Test.YthnpbopnpdlmnaaB03
namespace Go.Proofs.Ythnpbopnpdlmnaa

/-- What follows a try that has succeeded. -/
inductive Kont where
  | done
  | mark (g : Nat) (i k : Nat) (next : Kont)
  | cat (xs : List Re) (j k : Nat) (next : Kont)
  | rep (p : Pay) (x : Re) (c j k : Nat) (next : Kont)
/-- What is to be done: a try; a list of trees, the loop over their first part's end (n ends are left); the alternatives; a repetition, the loop over its end (n ends are left); what follows. -/
inductive Job where
  | try (e : Re) (i k : Nat)
  | cat (xs : List Re) (i k : Nat)
  | catj (x : Re) (xs : List Re) (i k n : Nat)
  | alt (xs : List Re) (i k : Nat)
  | rep (p : Pay) (x : Re) (c i k : Nat)
  | repj (p : Pay) (x : Re) (c i k lo n : Nat)
  | next
inductive Out where
  | found (l : Spans)
  | fail
  | over


section
variable (s : List UInt8) (lines : Bool)
/-- A node without parts. -/
def plainOf (p : Pay) (i k : Nat) (sp : Spans) : Bool :=
  if p.op = 1 then decide (k = i)
  else if p.op = 2 then decide (k = i + 1) && p.set.has (byteAt s i).toNat
  else if p.op = 7 then decide (k = i) && (decide (i = 0) || lines && decide (byteAt s (i - 1) = 10))
  else if p.op = 8 then decide (k = i) && (decide (i = s.length) || lines && decide (byteAt s i = 10))
  else let g := sp.getD (p.gr.toNat - 1) (-1, -1)
    decide (0 ≤ g.1) && decide ((k : Int) - i = g.2 - g.1) && decide ((s.drop i).take (k - i) = (s.drop g.1.toNat).take (k - i))
def partOp (p : Pay) : Prop := p.op = 3 ∨ p.op = 4 ∨ p.op = 5 ∨ p.op = 6
def mayRep (p : Pay) (c : Nat) : Prop := p.hi = -1 ∨ (c : Int) < p.hi
/-- The least end of a repetition, and how many ends there are. -/
def repLow (p : Pay) (c i : Nat) : Nat := if (c : Int) < p.lo then i else i + 1

/-- JOB, with these spans and what follows, n tries left: comes to this, and leaves so many tries. -/
inductive Ev : Job → Spans → Kont → Nat → Out → Nat → Prop where
  | tryOver {e i k sp K} : Ev (.try e i k) sp K 0 .over 0
  | leafFail {p xs i k sp K n} (h : ¬ partOp p) (hp : plainOf s lines p i k sp = false) : Ev (.try (.mk p xs) i k) sp K (n + 1) .fail n
  | leaf {p xs i k sp K n o m} (h : ¬ partOp p) (hp : plainOf s lines p i k sp = true) (hn : Ev .next sp K n o m) : Ev (.try (.mk p xs) i k) sp K (n + 1) o m
  | tryCat {p xs i k sp K n o m} (h : p.op = 3) (hn : Ev (.cat xs i k) sp K n o m) : Ev (.try (.mk p xs) i k) sp K (n + 1) o m
  | tryAlt {p xs i k sp K n o m} (h : p.op = 4) (hn : Ev (.alt xs i k) sp K n o m) : Ev (.try (.mk p xs) i k) sp K (n + 1) o m
  | tryRep {p x i k sp K n o m} (h : p.op = 5) (hn : Ev (.rep p x 0 i k) sp K n o m) : Ev (.try (.mk p [x]) i k) sp K (n + 1) o m
  | tryGroup {p x i k sp K n o m} (h : p.op = 6) (hn : Ev (.try x i k) sp (.mark p.gr.toNat i k K) n o m) : Ev (.try (.mk p [x]) i k) sp K (n + 1) o m
  | catOne {x i k sp K n o m} (hn : Ev (.try x i k) sp K n o m) : Ev (.cat [x] i k) sp K n o m
  | catMore {x y ys i k sp K n o m} (hn : Ev (.catj x (y :: ys) i k (k + 1 - i)) sp K n o m) : Ev (.cat (x :: y :: ys) i k) sp K n o m
  | catjNone {x xs i k sp K n} : Ev (.catj x xs i k 0) sp K n .fail n
  | catjHit {x xs i k c sp K n o m} (hn : Ev (.try x i (i + c)) sp (.cat xs (i + c) k K) n o m) (ho : o ≠ .fail) : Ev (.catj x xs i k (c + 1)) sp K n o m
  | catjMiss {x xs i k c sp K n o m m'} (hn : Ev (.try x i (i + c)) sp (.cat xs (i + c) k K) n .fail m) (hr : Ev (.catj x xs i k c) sp K m o m') : Ev (.catj x xs i k (c + 1)) sp K n o m'
  | altNone {i k sp K n} : Ev (.alt [] i k) sp K n .fail n
  | altHit {x xs i k sp K n o m} (hn : Ev (.try x i k) sp K n o m) (ho : o ≠ .fail) : Ev (.alt (x :: xs) i k) sp K n o m
  | altMiss {x xs i k sp K n o m m'} (hn : Ev (.try x i k) sp K n .fail m) (hr : Ev (.alt xs i k) sp K m o m') : Ev (.alt (x :: xs) i k) sp K n o m'
  | repMay {p x} {c : Nat} {i k sp K n o m} (h : mayRep p c) (hn : Ev (.repj p x c i k (repLow p c i) (k + 1 - repLow p c i)) sp K n o m) : Ev (.rep p x c i k) sp K n o m
  | repNot {p x} {c : Nat} {i k sp K n o m} (h : ¬ mayRep p c) (hn : Ev (.repj p x c i k (repLow p c i) 0) sp K n o m) : Ev (.rep p x c i k) sp K n o m
  | repjHit {p x c i k lo q sp K n o m} (hn : Ev (.try x i (lo + q)) (unset sp (withinOf x)) (.rep p x (c + 1) (lo + q) k K) n o m) (ho : o ≠ .fail) : Ev (.repj p x c i k lo (q + 1)) sp K n o m
  | repjMiss {p x c i k lo q sp K n o m m'} (hn : Ev (.try x i (lo + q)) (unset sp (withinOf x)) (.rep p x (c + 1) (lo + q) k K) n .fail m) (hr : Ev (.repj p x c i k lo q) sp K m o m') : Ev (.repj p x c i k lo (q + 1)) sp K n o m'
  | repjEnd {p x} {c i k lo : Nat} {sp K n o m} (h : i = k ∧ p.lo ≤ (c : Int)) (hn : Ev .next sp K n o m) : Ev (.repj p x c i k lo 0) sp K n o m
  | repjFail {p x} {c i k lo : Nat} {sp K n} (h : ¬ (i = k ∧ p.lo ≤ (c : Int))) : Ev (.repj p x c i k lo 0) sp K n .fail n
  | nextDone {sp n} : Ev .next sp .done n (.found sp) n
  | nextMark {g i k sp K n o m} (hn : Ev .next (sp.set (g - 1) ((i : Int), (k : Int))) K n o m) : Ev .next sp (.mark g i k K) n o m
  | nextCat {xs j k sp K n o m} (hn : Ev (.cat xs j k) sp K n o m) : Ev .next sp (.cat xs j k K) n o m
  | nextRep {p x c j k sp K n o m} (hn : Ev (.rep p x c j k) sp K n o m) : Ev .next sp (.rep p x c j k K) n o m

theorem Ev.left {J sp K n o m} (h : Ev s lines J sp K n o m) : m ≤ n ∧ (o = .over → m = 0) := by
  induction h with
  | tryOver => exact ⟨Nat.le_refl _, fun _ => rfl⟩
  | leafFail => exact ⟨Nat.le_succ _, fun h => by cases h⟩
  | catjNone => exact ⟨Nat.le_refl _, fun h => by cases h⟩
  | altNone => exact ⟨Nat.le_refl _, fun h => by cases h⟩
  | repjFail => exact ⟨Nat.le_refl _, fun h => by cases h⟩
  | nextDone => exact ⟨Nat.le_refl _, fun h => by cases h⟩
  | catjMiss _ _ h1 h2 => exact ⟨by omega, h2.2⟩
  | altMiss _ _ h1 h2 => exact ⟨by omega, h2.2⟩
  | repjMiss _ _ h1 h2 => exact ⟨by omega, h2.2⟩
  | leaf _ _ _ h => exact ⟨by omega, h.2⟩
  | tryCat _ _ h => exact ⟨by omega, h.2⟩
  | tryAlt _ _ h => exact ⟨by omega, h.2⟩
  | tryRep _ _ h => exact ⟨by omega, h.2⟩
  | tryGroup _ _ h => exact ⟨by omega, h.2⟩
  | catOne _ h => exact h
  | catMore _ h => exact h
  | catjHit _ _ h => exact h
  | altHit _ _ h => exact h
  | repMay _ _ h => exact h
  | repNot _ _ h => exact h
  | repjHit _ _ h => exact h
  | repjEnd _ _ h => exact h
  | nextMark _ h => exact h
  | nextCat _ h => exact h
  | nextRep _ h => exact h
theorem Ev.det {J sp K n o m} (h : Ev s lines J sp K n o m) : ∀ o' m', Ev s lines J sp K n o' m' → o = o' ∧ m = m' := by
  induction h with
  | tryOver => intro o' m' h'; cases h'; exact ⟨rfl, rfl⟩
  | leafFail h hp => intro o' m' h'; cases h' <;> first | exact ⟨rfl, rfl⟩ | (exfalso; simp_all [partOp]; done)
  | catjNone => intro o' m' h'; cases h'; exact ⟨rfl, rfl⟩
  | altNone => intro o' m' h'; cases h'; exact ⟨rfl, rfl⟩
  | repjFail h => intro o' m' h'; cases h' <;> first | exact ⟨rfl, rfl⟩ | (exfalso; contradiction)
  | nextDone => intro o' m' h'; cases h'; exact ⟨rfl, rfl⟩
  | leaf h hp hn ih => intro o' m' h'; clear hn; cases h' <;> first | exact ih _ _ (by assumption) | (exfalso; simp_all [partOp]; done)
  | tryCat h hn ih => intro o' m' h'; clear hn; cases h' <;> first | exact ih _ _ (by assumption) | (exfalso; simp_all [partOp]; done)
  | tryAlt h hn ih => intro o' m' h'; clear hn; cases h' <;> first | exact ih _ _ (by assumption) | (exfalso; simp_all [partOp]; done)
  | tryRep h hn ih => intro o' m' h'; clear hn; cases h' <;> first | exact ih _ _ (by assumption) | (exfalso; simp_all [partOp]; done)
  | tryGroup h hn ih => intro o' m' h'; clear hn; cases h' <;> first | exact ih _ _ (by assumption) | (exfalso; simp_all [partOp]; done)
  | catOne hn ih => intro o' m' h'; clear hn; cases h' <;> first | exact ih _ _ (by assumption) | (exfalso; simp_all [partOp]; done)
  | catMore hn ih => intro o' m' h'; clear hn; cases h' <;> first | exact ih _ _ (by assumption) | (exfalso; simp_all [partOp]; done)
  | repMay h hn ih => intro o' m' h'; clear hn; cases h' <;> first | exact ih _ _ (by assumption) | (exfalso; simp_all; done)
  | repNot h hn ih => intro o' m' h'; clear hn; cases h' <;> first | exact ih _ _ (by assumption) | (exfalso; simp_all; done)
  | repjEnd h hn ih => intro o' m' h'; clear hn; cases h' <;> first | exact ih _ _ (by assumption) | (exfalso; simp_all; done)
  | nextMark hn ih => intro o' m' h'; clear hn; cases h' <;> first | exact ih _ _ (by assumption) | (exfalso; simp_all [partOp]; done)
  | nextCat hn ih => intro o' m' h'; clear hn; cases h' <;> first | exact ih _ _ (by assumption) | (exfalso; simp_all [partOp]; done)
  | nextRep hn ih => intro o' m' h'; clear hn; cases h' <;> first | exact ih _ _ (by assumption) | (exfalso; simp_all [partOp]; done)
  | catjHit hn ho ih =>
    intro o' m' h'
    clear hn
    cases h' with
    | catjHit hn' ho' => exact ih _ _ hn'
    | catjMiss hn' hr' => exact absurd (ih _ _ hn').1 ho
  | catjMiss hn hr ih ih2 =>
    intro o' m' h'
    clear hn hr
    cases h' with
    | catjHit hn' ho' => exact absurd (ih _ _ hn').1.symm ho'
    | catjMiss hn' hr' =>
      obtain ⟨-, rfl⟩ := ih _ _ hn'
      exact ih2 _ _ hr'
  | altHit hn ho ih =>
    intro o' m' h'
    clear hn
    cases h' with
    | altHit hn' ho' => exact ih _ _ hn'
    | altMiss hn' hr' => exact absurd (ih _ _ hn').1 ho
  | altMiss hn hr ih ih2 =>
    intro o' m' h'
    clear hn hr
    cases h' with
    | altHit hn' ho' => exact absurd (ih _ _ hn').1.symm ho'
    | altMiss hn' hr' =>
      obtain ⟨-, rfl⟩ := ih _ _ hn'
      exact ih2 _ _ hr'
  | repjHit hn ho ih =>
    intro o' m' h'
    clear hn
    cases h' with
    | repjHit hn' ho' => exact ih _ _ hn'
    | repjMiss hn' hr' => exact absurd (ih _ _ hn').1 ho
  | repjMiss hn hr ih ih2 =>
    intro o' m' h'
    clear hn hr
    cases h' with
    | repjHit hn' ho' => exact absurd (ih _ _ hn').1.symm ho'
    | repjMiss hn' hr' =>
      obtain ⟨-, rfl⟩ := ih _ _ hn'
      exact ih2 _ _ hr'
theorem Ev.cost {J sp K n o m} (h : Ev s lines J sp K n o m) (ho : o ≠ .over) : ∀ n', (n - m ≤ n' → Ev s lines J sp K n' o (n' - (n - m))) ∧ (n' < n - m → Ev s lines J sp K n' .over 0) := by
  induction h with
  | tryOver => exact absurd rfl ho
  | @leafFail p xs i k sp K n h hp =>
    intro n'
    cases n' with
    | zero => exact ⟨fun hc => by omega, fun _ => .tryOver⟩
    | succ n' => exact ⟨fun hc => by rw [show n' + 1 - (n + 1 - n) = n' by omega]; exact .leafFail h hp, fun hc => by omega⟩
  | @leaf p xs i k sp K n o m h hp hn ih =>
    intro n'
    have hl := (Ev.left s lines hn).1
    cases n' with
    | zero => exact ⟨fun hc => by omega, fun _ => .tryOver⟩
    | succ n' => exact ⟨fun hc => by
        rw [show n' + 1 - (n + 1 - m) = n' - (n - m) by omega]
        exact Ev.leaf (s := s) (lines := lines) h hp ((ih ho n').1 (by omega)), fun hc => Ev.leaf (s := s) (lines := lines) h hp ((ih ho n').2 (by omega))⟩
  | @tryCat p xs i k sp K n o m h hn ih =>
    intro n'
    have hl := (Ev.left s lines hn).1
    cases n' with
    | zero => exact ⟨fun hc => by omega, fun _ => .tryOver⟩
    | succ n' => exact ⟨fun hc => by
        rw [show n' + 1 - (n + 1 - m) = n' - (n - m) by omega]
        exact Ev.tryCat (s := s) (lines := lines) h ((ih ho n').1 (by omega)), fun hc => Ev.tryCat (s := s) (lines := lines) h ((ih ho n').2 (by omega))⟩
  | @tryAlt p xs i k sp K n o m h hn ih =>
    intro n'
    have hl := (Ev.left s lines hn).1
    cases n' with
    | zero => exact ⟨fun hc => by omega, fun _ => .tryOver⟩
    | succ n' => exact ⟨fun hc => by
        rw [show n' + 1 - (n + 1 - m) = n' - (n - m) by omega]
        exact Ev.tryAlt (s := s) (lines := lines) h ((ih ho n').1 (by omega)), fun hc => Ev.tryAlt (s := s) (lines := lines) h ((ih ho n').2 (by omega))⟩
  | @tryRep p x i k sp K n o m h hn ih =>
    intro n'
    have hl := (Ev.left s lines hn).1
    cases n' with
    | zero => exact ⟨fun hc => by omega, fun _ => .tryOver⟩
    | succ n' => exact ⟨fun hc => by
        rw [show n' + 1 - (n + 1 - m) = n' - (n - m) by omega]
        exact Ev.tryRep (s := s) (lines := lines) h ((ih ho n').1 (by omega)), fun hc => Ev.tryRep (s := s) (lines := lines) h ((ih ho n').2 (by omega))⟩
  | @tryGroup p x i k sp K n o m h hn ih =>
    intro n'
    have hl := (Ev.left s lines hn).1
    cases n' with
    | zero => exact ⟨fun hc => by omega, fun _ => .tryOver⟩
    | succ n' => exact ⟨fun hc => by
        rw [show n' + 1 - (n + 1 - m) = n' - (n - m) by omega]
        exact Ev.tryGroup (s := s) (lines := lines) h ((ih ho n').1 (by omega)), fun hc => Ev.tryGroup (s := s) (lines := lines) h ((ih ho n').2 (by omega))⟩
  | catOne hn ih => intro n'; exact ⟨fun hc => .catOne ((ih ho n').1 hc), fun hc => .catOne ((ih ho n').2 hc)⟩
  | catMore hn ih => intro n'; exact ⟨fun hc => .catMore ((ih ho n').1 hc), fun hc => .catMore ((ih ho n').2 hc)⟩
  | repMay h hn ih => intro n'; exact ⟨fun hc => .repMay h ((ih ho n').1 hc), fun hc => .repMay h ((ih ho n').2 hc)⟩
  | repNot h hn ih => intro n'; exact ⟨fun hc => .repNot h ((ih ho n').1 hc), fun hc => .repNot h ((ih ho n').2 hc)⟩
  | repjEnd h hn ih => intro n'; exact ⟨fun hc => .repjEnd h ((ih ho n').1 hc), fun hc => .repjEnd h ((ih ho n').2 hc)⟩
  | nextMark hn ih => intro n'; exact ⟨fun hc => .nextMark ((ih ho n').1 hc), fun hc => .nextMark ((ih ho n').2 hc)⟩
  | nextCat hn ih => intro n'; exact ⟨fun hc => .nextCat ((ih ho n').1 hc), fun hc => .nextCat ((ih ho n').2 hc)⟩
  | nextRep hn ih => intro n'; exact ⟨fun hc => .nextRep ((ih ho n').1 hc), fun hc => .nextRep ((ih ho n').2 hc)⟩
  | catjNone => intro n'; exact ⟨fun hc => by rw [Nat.sub_self, Nat.sub_zero]; exact .catjNone, fun hc => by omega⟩
  | altNone => intro n'; exact ⟨fun hc => by rw [Nat.sub_self, Nat.sub_zero]; exact .altNone, fun hc => by omega⟩
  | nextDone => intro n'; exact ⟨fun hc => by rw [Nat.sub_self, Nat.sub_zero]; exact .nextDone, fun hc => by omega⟩
  | repjFail h => intro n'; exact ⟨fun hc => by rw [Nat.sub_self, Nat.sub_zero]; exact .repjFail h, fun hc => by omega⟩
  | catjHit hn hf ih => intro n'; exact ⟨fun hc => .catjHit ((ih ho n').1 hc) hf, fun hc => .catjHit ((ih ho n').2 hc) (by intro h; cases h)⟩
  | @catjMiss x xs i k c sp K n o m m' hn hr ih ih2 =>
    intro n'
    have h1 := (Ev.left s lines hn).1
    have h2 := (Ev.left s lines hr).1
    have hf : Out.fail ≠ .over := by intro h; cases h
    rcases Nat.lt_or_ge n' (n - m) with h3 | h3
    · exact ⟨fun hc => by omega, fun _ => .catjHit ((ih hf n').2 h3) (by intro h; cases h)⟩
    · refine ⟨fun hc => ?_, fun hc => ?_⟩
      · have h4 := (ih2 ho (n' - (n - m))).1 (by omega)
        rw [show n' - (n - m) - (m - m') = n' - (n - m') by omega] at h4
        exact .catjMiss ((ih hf n').1 h3) h4
      · exact .catjMiss ((ih hf n').1 h3) ((ih2 ho (n' - (n - m))).2 (by omega))
  | altHit hn hf ih => intro n'; exact ⟨fun hc => .altHit ((ih ho n').1 hc) hf, fun hc => .altHit ((ih ho n').2 hc) (by intro h; cases h)⟩
  | @altMiss x xs i k sp K n o m m' hn hr ih ih2 =>
    intro n'
    have h1 := (Ev.left s lines hn).1
    have h2 := (Ev.left s lines hr).1
    have hf : Out.fail ≠ .over := by intro h; cases h
    rcases Nat.lt_or_ge n' (n - m) with h3 | h3
    · exact ⟨fun hc => by omega, fun _ => .altHit ((ih hf n').2 h3) (by intro h; cases h)⟩
    · refine ⟨fun hc => ?_, fun hc => ?_⟩
      · have h4 := (ih2 ho (n' - (n - m))).1 (by omega)
        rw [show n' - (n - m) - (m - m') = n' - (n - m') by omega] at h4
        exact .altMiss ((ih hf n').1 h3) h4
      · exact .altMiss ((ih hf n').1 h3) ((ih2 ho (n' - (n - m))).2 (by omega))
  | repjHit hn hf ih => intro n'; exact ⟨fun hc => .repjHit ((ih ho n').1 hc) hf, fun hc => .repjHit ((ih ho n').2 hc) (by intro h; cases h)⟩
  | @repjMiss p x c i k lo q sp K n o m m' hn hr ih ih2 =>
    intro n'
    have h1 := (Ev.left s lines hn).1
    have h2 := (Ev.left s lines hr).1
    have hf : Out.fail ≠ .over := by intro h; cases h
    rcases Nat.lt_or_ge n' (n - m) with h3 | h3
    · exact ⟨fun hc => by omega, fun _ => .repjHit ((ih hf n').2 h3) (by intro h; cases h)⟩
    · refine ⟨fun hc => ?_, fun hc => ?_⟩
      · have h4 := (ih2 ho (n' - (n - m))).1 (by omega)
        rw [show n' - (n - m) - (m - m') = n' - (n - m') by omega] at h4
        exact .repjMiss ((ih hf n').1 h3) h4
      · exact .repjMiss ((ih hf n').1 h3) ((ih2 ho (n' - (n - m))).2 (by omega))
end
end Go.Proofs.Ythnpbopnpdlmnaa

/- Reback: the state of a search in memory, and function values that stand for what follows a try. -/
namespace Go.Proofs.Ythnpbopnpdlmnaa
open Go.RowKit

def Out.isFound : Out → Bool
  | .found _ => true
  | _ => false
def Out.isOver : Out → Bool
  | .over => true
  | _ => false


/-- Numbers at a slice's place, in a block outside S. -/
def NumsAt (S : List Nat) (w : World) (v : Value) (l : List Nat) : Prop :=
  ∃ (a : Option Addr) (c : Nat), v = .slice a l.length c ∧ (l = [] ∨ ∃ b cs, a = some ⟨b, 0, none⟩ ∧ b ∉ S ∧ Row w b cs 3 ∧ ∀ (k : Nat) x, l[k]? = some x → cs[k]? = some (.int .i64 (x : Int)))
theorem NumsAt.but {S : List Nat} {w w' : World} {v : Value} {l : List Nat} (h : NumsAt S w v l) (hf : But S w w') : NumsAt S w' v l := by
  obtain ⟨a, c, e, h1 | ⟨b, cs, h1, h2, h4, h5⟩⟩ := h
  · exact ⟨a, c, e, .inl h1⟩
  · exact ⟨a, c, e, .inr ⟨b, cs, h1, h2, h4.but hf h2, h5⟩⟩

/-- What stays in a search: the world that holds the trees, the blocks of the search, of the variable that holds its address and of the spans found, the number of groups, the budget, the string and the flag. -/
structure Ctx where
  w0 : World
  M : Nat
  MB : Nat
  G : Nat
  N : Nat
  B : Nat
  s : ByteArray
  lines : Bool
namespace Ctx
variable (C : Ctx)
def str : List UInt8 := C.s.data.toList
def S : List Nat := [C.M, C.G]
def cells (st : Int) (ov : Bool) : List Value :=
  [.string C.s, .bool C.lines, .int .i64 st, .int .i64 C.B, .bool ov, .func (.func 75) #[] #[], .func (.func 76) #[] #[.pointer (some ⟨C.MB, 0, none⟩)], .func (.func 79) #[] #[.pointer (some ⟨C.MB, 0, none⟩)],
    .func (.func 81) #[.pointer (some ⟨C.M, 0, none⟩)] #[], .func (.func 82) #[] #[.pointer (some ⟨C.MB, 0, none⟩)], .func (.func 85) #[.pointer (some ⟨C.M, 0, none⟩)] #[],
    .func (.func 77) #[] #[.pointer (some ⟨C.MB, 0, none⟩)], .func (.func 78) #[] #[.pointer (some ⟨C.MB, 0, none⟩)], .func (.func 86) #[.pointer (some ⟨C.M, 0, none⟩)] #[]]
/-- The search, with n tries left. -/
structure St (n : Nat) (ov : Bool) (w : World) : Prop where
  below : Below C.w0.heap.size C.w0 w
  m : Row w C.M (C.cells ((C.B - n : Nat) : Int) ov) 115
  mb : Row w C.MB [.pointer (some ⟨C.M, 0, none⟩)] 109
  g : ∃ old, Row w C.G [old] 38
  oM : C.w0.heap.size ≤ C.M
  oG : C.w0.heap.size ≤ C.G
  nB : n ≤ C.B
  big : C.B ≤ 20000
  len : C.s.size ≤ 1000000
  few : C.N ≤ 9
end Ctx
variable {C : Ctx}
theorem Ctx.St.later {n : Nat} {ov : Bool} {w w' : World} (h : C.St n ov w) (hb : Below w.heap.size w w') : C.St n ov w' :=
  ⟨h.below.trans (hb.mono h.below.size), h.m.below hb h.m.lt, h.mb.below hb h.mb.lt, h.g.elim fun old hg => ⟨old, hg.below hb hg.lt⟩, h.oM, h.oG, h.nB, h.big, h.len, h.few⟩
theorem Ctx.St.mbS {n : Nat} {ov : Bool} {w : World} (h : C.St n ov w) : C.MB ∉ C.S := by
  intro hm
  obtain ⟨old, hg⟩ := h.g
  rcases List.mem_cons.1 hm with e | hm
  · have := h.mb; rw [e] at this; exact absurd (this.typed h.m) (by decide)
  · have e := List.mem_singleton.1 hm; have := h.mb; rw [e] at this; exact absurd (this.typed hg) (by decide)
theorem Ctx.St.ne {n : Nat} {ov : Bool} {w : World} (h : C.St n ov w) : C.M ≠ C.G := by
  intro e
  obtain ⟨old, hg⟩ := h.g
  rw [← e] at hg; exact absurd (h.m.typed hg) (by decide)
/-- A block of another type is neither the search nor the spans found. -/
theorem Ctx.St.nS {n : Nat} {ov : Bool} {w : World} (h : C.St n ov w) {b : Nat} {cs : List Value} {T : TypeId} (hr : Row w b cs T) (h1 : T ≠ 115) (h2 : T ≠ 38) : b ∉ C.S := by
  intro hm
  obtain ⟨old, hg⟩ := h.g
  rcases List.mem_cons.1 hm with e | hm
  · subst e; exact h1 (hr.typed h.m)
  · have e := List.mem_singleton.1 hm; subst e; exact h2 (hr.typed hg)
theorem Ctx.St.new {n : Nat} {ov : Bool} {w : World} (h : C.St n ov w) {b : Nat} (hb : w.heap.size ≤ b) : b ∉ C.S := by
  intro hm
  obtain ⟨old, hg⟩ := h.g
  have := h.m.lt
  have := hg.lt
  rcases List.mem_cons.1 hm with e | hm
  · omega
  · have e := List.mem_singleton.1 hm; omega

/-- The thirteen cells of a task. -/
abbrev Pay.task (p : Pay) (sl : Value) (i k sv nv : Value) : List Value :=
  [.int .i64 p.op, .int .u64 p.set.a, .int .u64 p.set.b, .int .u64 p.set.c, .int .u64 p.set.d, .int .i64 p.lo, .int .i64 p.hi, .int .i64 p.gr, sl, i, k, sv, nv]
theorem Row.c13 {w : World} {B : Nat} {a b c d e f g i j k l m n : Value} {T : TypeId} (h : Row w B [a, b, c, d, e, f, g, i, j, k, l, m, n] T) :
    w.cell? ⟨B, 0, none⟩ = some a ∧ w.cell? ⟨B, 1, none⟩ = some b ∧ w.cell? ⟨B, 2, none⟩ = some c ∧ w.cell? ⟨B, 3, none⟩ = some d ∧ w.cell? ⟨B, 4, none⟩ = some e ∧ w.cell? ⟨B, 5, none⟩ = some f ∧
      w.cell? ⟨B, 6, none⟩ = some g ∧ w.cell? ⟨B, 7, none⟩ = some i ∧ w.cell? ⟨B, 8, none⟩ = some j ∧ w.cell? ⟨B, 9, none⟩ = some k ∧ w.cell? ⟨B, 10, none⟩ = some l ∧ w.cell? ⟨B, 11, none⟩ = some m ∧ w.cell? ⟨B, 12, none⟩ = some n :=
  ⟨h.cell 0, h.cell 1, h.cell 2, h.cell 3, h.cell 4, h.cell 5, h.cell 6, h.cell 7, h.cell 8, h.cell 9, h.cell 10, h.cell 11, h.cell 12⟩
/-- The search's own cells that are read. -/
theorem Ctx.St.c {n : Nat} {ov : Bool} {w : World} (h : C.St n ov w) : w.cell? ⟨C.M, 0, none⟩ = some (.string C.s) ∧ w.cell? ⟨C.M, 1, none⟩ = some (.bool C.lines) ∧ w.cell? ⟨C.M, 2, none⟩ = some (.int .i64 ((C.B - n : Nat) : Int)) ∧ w.cell? ⟨C.M, 3, none⟩ = some (.int .i64 C.B) ∧ w.cell? ⟨C.M, 4, none⟩ = some (.bool ov) ∧ w.cell? ⟨C.MB, 0, none⟩ = some (.pointer (some ⟨C.M, 0, none⟩)) :=
  ⟨h.m.cell 0, h.m.cell 1, h.m.cell 2, h.m.cell 3, h.m.cell 4, h.mb.cell 0⟩

def Kont.ok (N L D : Nat) : Kont → Prop
  | .done => True
  | .mark g i k K => 1 ≤ g ∧ g ≤ N ∧ i ≤ k ∧ k ≤ L ∧ K.ok N L D
  | .cat xs j k K => xs ≠ [] ∧ Re.oks N xs ∧ j ≤ k ∧ k ≤ L ∧ K.ok N L D
  | .rep p x c j k K => p.op = 5 ∧ (Re.mk p [x]).ok N ∧ c ≤ D ∧ j ≤ k ∧ k ≤ L ∧ K.ok N L D
theorem Kont.ok.mono {N L D D' : Nat} (hd : D ≤ D') : ∀ {K : Kont}, K.ok N L D → K.ok N L D'
  | .done, _ => trivial
  | .mark _ _ _ _, h => ⟨h.1, h.2.1, h.2.2.1, h.2.2.2.1, Kont.ok.mono hd h.2.2.2.2⟩
  | .cat _ _ _ _, h => ⟨h.1, h.2.1, h.2.2.1, h.2.2.2.1, Kont.ok.mono hd h.2.2.2.2⟩
  | .rep _ _ _ _ _ _, h => ⟨h.1, h.2.1, Nat.le_trans h.2.2.1 hd, h.2.2.2.1, h.2.2.2.2.1, Kont.ok.mono hd h.2.2.2.2.2⟩

/-- The function value is what follows. -/
inductive KAt (C : Ctx) (w : World) : Value → Kont → Prop where
  | done : KAt C w (.func (.func 88) #[] #[.pointer (some ⟨C.G, 0, none⟩)]) .done
  | mark {b : Nat} {p : Pay} {sl : Value} {i k : Nat} {sa : Option Addr} {sn sc : Nat} {fid : Nat} {cap : Array Value} {K : Kont} (hr : Row w b (p.task sl (.int .i64 i) (.int .i64 k) (.slice sa sn sc) (.func (.func fid) #[] cap)) 138) (hg : 0 ≤ p.gr) (hk : KAt C w (.func (.func fid) #[] cap) K) :
      KAt C w (.func (.func 103) #[] #[.pointer (some ⟨b, 0, none⟩)]) (.mark p.gr.toNat i k K)
  | cat {mb ab tb jb : Nat} {a : Option Addr} {q : Nat} {x : Re} {xs : List Re} {p : Pay} {sa ta : Option Addr} {i sn sc tn tc : Nat} {j k : Nat} {fid : Nat} {cap : Array Value} {K : Kont} (hm : Row w mb [.pointer (some ⟨C.M, 0, none⟩)] 109)
      (ha : Row w ab [.slice a (xs.length + 1) q] 26) (hx : Re.AllIn C.w0 (x :: xs) a 0) (hq : xs.length + 1 ≤ q ∧ q ≤ maxLen) (ht : Row w tb (p.task (.slice ta tn tc) (.int .i64 i) (.int .i64 k) (.slice sa sn sc) (.func (.func fid) #[] cap)) 138) (hj : Row w jb [.int .i64 j] 3) (hk : KAt C w (.func (.func fid) #[] cap) K) :
      KAt C w (.func (.func 100) #[] #[.pointer (some ⟨mb, 0, none⟩), .pointer (some ⟨ab, 0, none⟩), .pointer (some ⟨tb, 0, none⟩), .pointer (some ⟨jb, 0, none⟩)]) (.cat xs j k K)
  | rep {mb tb gb cb jb : Nat} {p : Pay} {x : Re} {ta : Option Addr} {tc : Nat} {sa : Option Addr} {i sn sc : Nat} {ga : Option Addr} {gc : Nat} {c j k : Nat} {fid : Nat} {cap : Array Value} {K : Kont} (hm : Row w mb [.pointer (some ⟨C.M, 0, none⟩)] 109)
      (he : (Re.mk p [x]).In C.w0 (p.cells (.slice ta 1 tc))) (ht : Row w tb (p.task (.slice ta 1 tc) (.int .i64 i) (.int .i64 k) (.slice sa sn sc) (.func (.func fid) #[] cap)) 138) (hg : Row w gb [.slice ga (withinOf x).length gc] 69) (hn : NumsAt C.S w (.slice ga (withinOf x).length gc) (withinOf x)) (hc : Row w cb [.int .i64 c] 3) (hj : Row w jb [.int .i64 j] 3) (hk : KAt C w (.func (.func fid) #[] cap) K) :
      KAt C w (.func (.func 101) #[] #[.pointer (some ⟨mb, 0, none⟩), .pointer (some ⟨tb, 0, none⟩), .pointer (some ⟨gb, 0, none⟩), .pointer (some ⟨cb, 0, none⟩), .pointer (some ⟨jb, 0, none⟩)]) (.rep p x (c + 1) j k K)
theorem KAt.form {w : World} {v : Value} {K : Kont} (h : KAt C w v K) : ∃ (fid : Nat) (cap : Array Value), v = .func (.func fid) #[] cap := by
  cases h <;> exact ⟨_, _, rfl⟩
set_option maxRecDepth 100000 in
theorem KAt.but {n : Nat} {ov : Bool} {w w' : World} {v : Value} {K : Kont} (h : KAt C w v K) (hS : C.St n ov w) (hb : But C.S w w') : KAt C w' v K := by
  induction h with
  | done => exact .done
  | mark h2 h4 _ ih => exact .mark (h2.but hb (hS.nS h2 (by decide) (by decide))) h4 ih
  | cat hm ha hx hq ht hj _ ih => exact .cat (hm.but hb (hS.nS hm (by decide) (by decide))) (ha.but hb (hS.nS ha (by decide) (by decide))) hx hq (ht.but hb (hS.nS ht (by decide) (by decide))) (hj.but hb (hS.nS hj (by decide) (by decide))) ih
  | rep hm he ht hg hn hc hj _ ih => exact .rep (hm.but hb (hS.nS hm (by decide) (by decide))) he (ht.but hb (hS.nS ht (by decide) (by decide))) (hg.but hb (hS.nS hg (by decide) (by decide))) (hn.but hb) (hc.but hb (hS.nS hc (by decide) (by decide))) (hj.but hb (hS.nS hj (by decide) (by decide))) ih
set_option maxRecDepth 100000 in
theorem KAt.later {n : Nat} {ov : Bool} {w w' : World} {v : Value} {K : Kont} (h : KAt C w v K) (hS : C.St n ov w) (hb : Below w.heap.size w w') : KAt C w' v K := h.but hS (But.of_below hb)

set_option maxRecDepth 100000 in
theorem KAt.enter {w : World} {fid : Nat} {cap : Array Value} {K : Kont} (h : KAt C w (.func (.func fid) #[] cap) K) : ∀ (args : Array Value) (x : World), Sem.run Try.prog (callFunc fid args) x = .ok (.enter fid args) x := by
  cases h <;> intro args x <;> rfl
/-- How a call may end that does a job: E says what the job comes to. -/
def Good (C : Ctx) (E : Out → Nat → Prop) (w : World) (e : Ending) (w' : World) : Prop :=
  ∃ (o : Out) (m : Nat), E o m ∧ e = .returned (.bool o.isFound) ∧ C.St m o.isOver w' ∧ But C.S w w' ∧ ∀ l, o = .found l → SpOk C.N C.s.size l ∧ ∃ v, Row w' C.G [v] 38 ∧ SpAt C.S w' v l
theorem Good.mono {E E' : Out → Nat → Prop} {w : World} {e : Ending} {w' : World} (h : Good C E w e w') (hE : ∀ o m, E o m → E' o m) : Good C E' w e w' := by
  obtain ⟨o, m, h1, h2⟩ := h
  exact ⟨o, m, hE o m h1, h2⟩
theorem Good.from {E : Out → Nat → Prop} {v w : World} {e : Ending} {w' : World} (h : Good C E w e w') (hb : But C.S v w) : Good C E v e w' := by
  obtain ⟨o, m, h1, h2, h3, h4, h5⟩ := h
  exact ⟨o, m, h1, h2, h3, hb.trans h4, h5⟩
/-- What a job asks of the world: the spans and what follows lie there. -/
structure Pre (C : Ctx) (n D : Nat) (sp : Spans) (K : Kont) (sv nv : Value) (w : World) : Prop where
  st : C.St n false w
  span : SpAt C.S w sv sp
  ok : SpOk C.N C.s.size sp
  k : KAt C w nv K
  kok : K.ok C.N C.s.size D
theorem Pre.later {n D : Nat} {sp : Spans} {K : Kont} {sv nv : Value} {w w' : World} (h : Pre C n D sp K sv nv w) (hb : Below w.heap.size w w') : Pre C n D sp K sv nv w' :=
  ⟨h.st.later hb, h.span.but (But.of_below hb), h.ok, h.k.later h.st hb, h.kok⟩
/-- The contract of try, with n tries left. -/
def TryC (C : Ctx) (n : Nat) : Prop := ∀ (w : World) (e : Re) (cs : List Value) (i k : Nat) (sp : Spans) (K : Kont) (sv nv : Value), e.In C.w0 cs → e.ok C.N → i ≤ k → k ≤ C.s.size → Pre C n (C.B - n + 1) sp K sv nv w →
  Calls Try.prog 89 #[.pointer (some ⟨C.M, 0, none⟩), .agg (cs ++ [.int .i64 i, .int .i64 k, sv, nv]).toArray] w (Good C (Ev C.str C.lines (.try e i k) sp K n) w)
/-- The contract of what follows. -/
def NextC (C : Ctx) (n : Nat) (K : Kont) : Prop := ∀ (w : World) (sp : Spans) (sv : Value) (fid : Nat) (cap : Array Value), Pre C n (C.B - n) sp K sv (.func (.func fid) #[] cap) w →
  Calls Try.prog fid (#[sv] ++ cap) w (Good C (Ev C.str C.lines .next sp K n) w)
end Go.Proofs.Ythnpbopnpdlmnaa
