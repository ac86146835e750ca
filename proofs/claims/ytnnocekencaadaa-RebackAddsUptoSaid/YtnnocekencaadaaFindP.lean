/- Reback, plainly: a search at an offset, and at several ones. -/
import Derived.Test.YtnnocekencaadaaEv
namespace Go.Proofs.Ytnnocekencaadaa

def unsetAll (N : Nat) : Spans := List.replicate N (-1, -1)
section
variable (s : List UInt8) (lines : Bool) (e : Re) (N : Nat)
/-- At an offset, c ends are left (the least is the offset): n tries before, m after. -/
inductive EvAt (at_ : Nat) : Nat → Nat → Out → Nat → Prop where
  | none {n} : EvAt at_ 0 n .fail n
  | hit {c n l m} (h : Ev s lines (.try e at_ (at_ + c)) (unsetAll N) .done n (.found l) m) : EvAt at_ (c + 1) n (.found (((at_ : Int), ((at_ + c : Nat) : Int)) :: l)) m
  | over {c n m} (h : Ev s lines (.try e at_ (at_ + c)) (unsetAll N) .done n .over m) : EvAt at_ (c + 1) n .over m
  | miss {c n m o m'} (h : Ev s lines (.try e at_ (at_ + c)) (unsetAll N) .done n .fail m) (hr : EvAt at_ c m o m') : EvAt at_ (c + 1) n o m'
/-- At the offsets from i on, d of them. -/
inductive EvFind : Nat → Nat → Nat → Out → Nat → Prop where
  | none {i n} : EvFind i 0 n .fail n
  | hit {i d n o m} (h : EvAt s lines e N i (s.length + 1 - i) n o m) (ho : o ≠ .fail) : EvFind i (d + 1) n o m
  | miss {i d n m o m'} (h : EvAt s lines e N i (s.length + 1 - i) n .fail m) (hr : EvFind (i + 1) d m o m') : EvFind i (d + 1) n o m'
theorem EvAt.left {a c n o m} (h : EvAt s lines e N a c n o m) : m ≤ n ∧ (o = .over → m = 0) := by
  induction h with
  | none => exact ⟨Nat.le_refl _, fun h => by cases h⟩
  | hit h => have := Ev.left s lines h; exact ⟨this.1, fun h => by cases h⟩
  | over h => have := Ev.left s lines h; exact ⟨this.1, fun _ => this.2 rfl⟩
  | miss h _ ih => have := (Ev.left s lines h).1; exact ⟨by omega, ih.2⟩
theorem EvFind.left {i d n o m} (h : EvFind s lines e N i d n o m) : m ≤ n ∧ (o = .over → m = 0) := by
  induction h with
  | none => exact ⟨Nat.le_refl _, fun h => by cases h⟩
  | hit h _ => exact EvAt.left s lines e N h
  | miss h _ ih => have := (EvAt.left s lines e N h).1; exact ⟨by omega, ih.2⟩
theorem EvAt.det {a c n o m} (h : EvAt s lines e N a c n o m) : ∀ o' m', EvAt s lines e N a c n o' m' → o = o' ∧ m = m' := by
  induction h with
  | none => intro o' m' h'; cases h'; exact ⟨rfl, rfl⟩
  | hit h =>
    intro o' m' h'
    cases h' with
    | hit h2 => obtain ⟨e1, e2⟩ := Ev.det s lines h _ _ h2; injection e1 with e1; subst e1; exact ⟨rfl, e2⟩
    | over h2 => obtain ⟨e1, e2⟩ := Ev.det s lines h _ _ h2; cases e1
    | miss h2 => obtain ⟨e1, e2⟩ := Ev.det s lines h _ _ h2; cases e1
  | over h =>
    intro o' m' h'
    cases h' with
    | hit h2 => obtain ⟨e1, e2⟩ := Ev.det s lines h _ _ h2; cases e1
    | over h2 => exact ⟨rfl, (Ev.det s lines h _ _ h2).2⟩
    | miss h2 => obtain ⟨e1, e2⟩ := Ev.det s lines h _ _ h2; cases e1
  | miss h _ ih =>
    intro o' m' h'
    cases h' with
    | hit h2 => obtain ⟨e1, e2⟩ := Ev.det s lines h _ _ h2; cases e1
    | over h2 => obtain ⟨e1, e2⟩ := Ev.det s lines h _ _ h2; cases e1
    | miss h2 hr2 => obtain ⟨-, e2⟩ := Ev.det s lines h _ _ h2; subst e2; exact ih _ _ hr2
theorem EvFind.det {i d n o m} (h : EvFind s lines e N i d n o m) : ∀ o' m', EvFind s lines e N i d n o' m' → o = o' ∧ m = m' := by
  induction h with
  | none => intro o' m' h'; cases h'; exact ⟨rfl, rfl⟩
  | hit h ho =>
    intro o' m' h'
    cases h' with
    | hit h2 _ => exact EvAt.det s lines e N h _ _ h2
    | miss h2 _ => exact absurd (EvAt.det s lines e N h _ _ h2).1 ho
  | miss h _ ih =>
    intro o' m' h'
    cases h' with
    | hit h2 ho => exact absurd (EvAt.det s lines e N h _ _ h2).1.symm ho
    | miss h2 hr2 => obtain ⟨-, e2⟩ := EvAt.det s lines e N h _ _ h2; subst e2; exact ih _ _ hr2
theorem EvAt.cost {a c n o m} (h : EvAt s lines e N a c n o m) (ho : o ≠ .over) : ∀ n', (n - m ≤ n' → EvAt s lines e N a c n' o (n' - (n - m))) ∧ (n' < n - m → EvAt s lines e N a c n' .over 0) := by
  induction h with
  | none => intro n'; exact ⟨fun hc => by rw [Nat.sub_self, Nat.sub_zero]; exact .none, fun hc => by omega⟩
  | hit h => intro n'; exact ⟨fun hc => .hit ((Ev.cost s lines h (by intro h; cases h) n').1 hc), fun hc => .over ((Ev.cost s lines h (by intro h; cases h) n').2 hc)⟩
  | over h => exact absurd rfl ho
  | @miss c n m o m' h hr ih =>
    intro n'
    have h1 := (Ev.left s lines h).1
    have h2 := (EvAt.left s lines e N hr).1
    have hf : Out.fail ≠ .over := by intro h; cases h
    rcases Nat.lt_or_ge n' (n - m) with h3 | h3
    · exact ⟨fun hc => by omega, fun _ => .over ((Ev.cost s lines h hf n').2 h3)⟩
    · refine ⟨fun hc => ?_, fun hc => ?_⟩
      · have h4 := (ih ho (n' - (n - m))).1 (by omega)
        rw [show n' - (n - m) - (m - m') = n' - (n - m') by omega] at h4
        exact .miss ((Ev.cost s lines h hf n').1 h3) h4
      · exact .miss ((Ev.cost s lines h hf n').1 h3) ((ih ho (n' - (n - m))).2 (by omega))
theorem EvFind.cost {i d n o m} (h : EvFind s lines e N i d n o m) (ho : o ≠ .over) : ∀ n', (n - m ≤ n' → EvFind s lines e N i d n' o (n' - (n - m))) ∧ (n' < n - m → EvFind s lines e N i d n' .over 0) := by
  induction h with
  | none => intro n'; exact ⟨fun hc => by rw [Nat.sub_self, Nat.sub_zero]; exact .none, fun hc => by omega⟩
  | hit h hf => intro n'; exact ⟨fun hc => .hit ((EvAt.cost s lines e N h ho n').1 hc) hf, fun hc => .hit ((EvAt.cost s lines e N h ho n').2 hc) (by intro h; cases h)⟩
  | @miss i d n m o m' h hr ih =>
    intro n'
    have h1 := (EvAt.left s lines e N h).1
    have h2 := (EvFind.left s lines e N hr).1
    have hf : Out.fail ≠ .over := by intro h; cases h
    rcases Nat.lt_or_ge n' (n - m) with h3 | h3
    · exact ⟨fun hc => by omega, fun _ => .hit ((EvAt.cost s lines e N h hf n').2 h3) (by intro h; cases h)⟩
    · refine ⟨fun hc => ?_, fun hc => ?_⟩
      · have h4 := (ih ho (n' - (n - m))).1 (by omega)
        rw [show n' - (n - m) - (m - m') = n' - (n - m') by omega] at h4
        exact .miss ((EvAt.cost s lines e N h hf n').1 h3) h4
      · exact .miss ((EvAt.cost s lines e N h hf n').1 h3) ((ih ho (n' - (n - m))).2 (by omega))
end
end Go.Proofs.Ytnnocekencaadaa
