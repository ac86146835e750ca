/- What a store does: the plain law. No program. -/
import Derived.Test.YtnncbbfbnccnbaaOpenF
namespace Go.Proofs.Ytnncbbfbnccnbaa
open Go.RowKit

structure Fl where
  name : List UInt8
  text : List UInt8
  sync : Int
structure Ab where
  limit : Int
  used : Int
  peak : Int
  files : List Fl
  crash : Bool
  count : Int
def Ent.fl (f : Ent) : Fl := ⟨f.name, f.text, f.sync⟩
def St.ab (s : St) : Ab := ⟨s.limit, s.used, s.peak, s.ents.map Ent.fl, s.crash, s.count⟩
def Ab.began (a : Ab) : Ab := if a.crash = true then a else if a.count = 1 then { a with crash := true, count := 0 } else if 1 < a.count then { a with count := a.count - 1 } else a
theorem St.ab_began (s : St) : s.began.ab = s.ab.began := by
  unfold St.began Ab.began
  show _ = if s.crash = true then _ else if s.count = 1 then _ else if 1 < s.count then _ else _
  split
  · rfl
  split
  · rfl
  split <;> rfl
def total : List Fl → Nat
  | [] => 0
  | f :: fs => f.text.length + total fs
/-- What always holds of a store that New returned. -/
structure Ab.ok (a : Ab) : Prop where
  used : a.used = total a.files
  limit : a.used ≤ a.limit ∧ a.limit ≤ 262144
  peak : a.used ≤ a.peak ∧ a.peak ≤ a.limit
  sync : ∀ f, f ∈ a.files → 0 ≤ f.sync ∧ f.sync ≤ f.text.length
  count : 0 ≤ a.count ∧ a.count ≤ 9223372036854775807
theorem total_mem {f : Fl} : ∀ {l : List Fl}, f ∈ l → f.text.length ≤ total l
  | x :: l, h => by
    unfold total
    rcases List.mem_cons.1 h with rfl | h
    · omega
    · have := total_mem h; omega
theorem Ab.ok.began {a : Ab} (h : a.ok) : a.began.ok := by
  unfold Ab.began
  split
  · exact h
  split
  · exact ⟨h.used, h.limit, h.peak, h.sync, by show (0 : Int) ≤ 0 ∧ (0 : Int) ≤ 9223372036854775807; omega⟩
  split
  · have := h.count
    exact ⟨h.used, h.limit, h.peak, h.sync, by show (0 : Int) ≤ a.count - 1 ∧ a.count - 1 ≤ 9223372036854775807; omega⟩
  · exact h
/-- The first file of a name is changed. -/
def upd (nm : List UInt8) (g : Fl → Fl) : List Fl → List Fl
  | [] => []
  | f :: fs => if f.name == nm then g f :: fs else f :: upd nm g fs
def Ab.find (a : Ab) (nm : List UInt8) : Option Fl := a.files.find? fun f => f.name == nm
theorem upd_at (nm : List UInt8) (g : Fl → Fl) : ∀ (l1 : List Fl) (f : Fl) (l2 : List Fl), (∀ x, x ∈ l1 → (x.name == nm) = false) → (f.name == nm) = true → upd nm g (l1 ++ f :: l2) = l1 ++ g f :: l2
  | [], f, l2, _, h => by simp [upd, h]
  | x :: l1, f, l2, h1, h => by
    have hx := h1 x (by simp)
    simp only [List.cons_append, upd, hx]
    rw [upd_at nm g l1 f l2 (fun y hy => h1 y (by simp [hy])) h]
    rfl
theorem St.find_ab (s : St) (nm : ByteArray) : s.ab.find nm.data.toList = (s.find nm).map Ent.fl := by
  unfold Ab.find St.find St.ab
  rw [List.find?_map]
  rfl
theorem St.find_split {s : St} {nm : ByteArray} {f : Ent} (h : s.find nm = some f) : (f.name == nm.data.toList) = true ∧ ∃ l1 l2, s.ents = l1 ++ f :: l2 ∧ ∀ x, x ∈ l1 → (x.name == nm.data.toList) = false := by
  unfold St.find at h
  obtain ⟨h1, l1, l2, h2, h3⟩ := List.find?_eq_some_iff_append.1 h
  exact ⟨h1, l1, l2, h2, fun x hx => by simpa using h3 x hx⟩
def Ab.append (a : Ab) (nm tx : List UInt8) : Int × Ab :=
  if a.began.crash = true then (19, a.began) else match a.began.find nm with
  | none => (5, a.began)
  | some _ => if a.began.limit < a.began.used + tx.length then (12, a.began) else
    (0, { a.began with used := a.began.used + tx.length, peak := max a.began.peak (a.began.used + tx.length), files := upd nm (fun f => { f with text := f.text ++ tx }) a.began.files })
def Ab.sync (a : Ab) (nm : List UInt8) : Int × Ab :=
  if a.began.crash = true then (19, a.began) else match a.began.find nm with
  | none => (5, a.began)
  | some _ => (0, { a.began with files := upd nm (fun f => { f with sync := f.text.length }) a.began.files })
def Ab.read (a : Ab) (nm : List UInt8) (i n : Int) : List UInt8 × Int × Ab :=
  if a.began.crash = true then ([], 19, a.began) else match a.began.find nm with
  | none => ([], 5, a.began)
  | some f => if i < 0 ∨ (f.text.length : Int) < i ∨ n < 0 then ([], 2, a.began) else ((f.text.drop i.toNat).take n.toNat, 0, a.began)
/-- A file in the place of its name. -/
def ins (f : Fl) : List Fl → List Fl
  | [] => [f]
  | y :: r => if (Lit.string f.name).before (.string y.name) then f :: y :: r else y :: ins f r
def nameOk (l : List UInt8) : Bool := decide (1 ≤ l.length) && decide (l.length ≤ 32) && (l.all fun c => decide ((97 ≤ c.toNat ∧ c.toNat ≤ 122) ∨ (65 ≤ c.toNat ∧ c.toNat ≤ 90) ∨ c.toNat = 95 ∨ c.toNat = 46 ∨ (48 ≤ c.toNat ∧ c.toNat ≤ 57))) && !(match l with | [] => false | c :: _ => decide (48 ≤ c.toNat ∧ c.toNat ≤ 57))
def Ab.create (a : Ab) (nm : List UInt8) : Int × Ab :=
  if a.began.crash = true then (19, a.began) else if nameOk nm = false then (4, a.began) else match a.began.find nm with
  | some _ => (6, a.began)
  | none => if 64 ≤ a.began.files.length then (3, a.began) else (0, { a.began with files := ins ⟨nm, [], 0⟩ a.began.files })
end Go.Proofs.Ytnncbbfbnccnbaa
