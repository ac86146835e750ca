/- A store of a law: calls, lists. -/
import Derived.Test.YtnncbbfbnccnbaaAw18
import Derived.Test.YtnncbbfbnccnbaaCalls
namespace Go.Proofs.Ytnncbbfbnccnbaa
open Go.RowKit

/-- A list of files to be read. -/
def FilesAt (w : World) (p : Option Addr) (L : List Fl) : Prop := L = [] ∨ ∃ b, p = some ⟨b, 0, none⟩ ∧ b < w.heap.size ∧ ∀ i (h : i < L.length), CellsAt w b (i * 3) (fcells L[i])
theorem flat3 : ∀ (L : List Fl) (i j : Nat) (h : i < L.length), j < 3 → (L.flatMap fcells)[i * 3 + j]? = (fcells L[i])[j]?
  | x :: L, 0, j, _, hj => by
    rw [List.flatMap_cons, List.getElem?_append_left (by show _ < 3; omega)]
    simp
  | x :: L, i + 1, j, h, hj => by
    rw [List.flatMap_cons, List.getElem?_append_right (by show 3 ≤ _; omega)]
    have e : (i + 1) * 3 + j - (fcells x).length = i * 3 + j := by show _ - 3 = _; omega
    rw [e, flat3 L i j (by simpa using h) hj]
    rfl
theorem OwnF.files {w : World} {base cap : Nat} {p : Option Addr} {L : List Fl} (h : OwnF w base (.slice p L.length cap) L) : FilesAt w p L := by
  rcases Nat.eq_zero_or_pos L.length with h0 | h0
  · exact .inl (List.eq_nil_of_length_eq_zero h0)
  · have hh := h
    obtain ⟨-, hx⟩ := hh
    rcases hx with ⟨-, h1⟩ | ⟨g, c, cur, hv, -, hg, -⟩
    · omega
    · injection hv with e1 e2 e3
      subst e1
      refine .inr ⟨g, rfl, (h.lt g rfl).2, fun i hi j v hj => ?_⟩
      have hj3 : j < 3 := by
        rcases Nat.lt_or_ge j 3 with h1 | h1
        · exact h1
        · rw [List.getElem?_eq_none (by exact h1)] at hj; cases hj
      have := h.cells (g := g) rfl (i * 3 + j) v (by rw [flat3 L i j hi hj3]; exact hj)
      rw [Addr.add_lit, Nat.zero_add] at this
      exact this
theorem FilesAt.below {w w' : World} {p : Option Addr} {L : List Fl} (h : FilesAt w p L) (hb : RowKit.Below w.heap.size w w') : FilesAt w' p L := by
  rcases h with h | ⟨b, rfl, h1, h2⟩
  · exact .inl h
  · exact .inr ⟨b, rfl, Nat.lt_of_lt_of_le h1 hb.size, fun i hi j v hj => by rw [hb.cell (p := ⟨b, i * 3 + j, none⟩) h1]; exact h2 i hi j v hj⟩
theorem cells3 {w : World} {b f : Nat} {v0 v1 v2 : Value} (h : CellsAt w b f [v0, v1, v2]) :
    w.cell? ⟨b, f, none⟩ = some v0 ∧ w.cell? ⟨b, f + 1, none⟩ = some v1 ∧ w.cell? ⟨b, f + 2, none⟩ = some v2 :=
  ⟨by simpa using h 0 _ rfl, h 1 _ rfl, h 2 _ rfl⟩
theorem One.below {w0 w : World} {B : Nat} {a : Ab} (h : One w0 B a w) : Below w0.heap.size w0 w := by obtain ⟨s, -, -, hb⟩ := h; exact hb
theorem One.sorted {w0 w : World} {B : Nat} {a : Ab} (h : One w0 B a w) : a.files.Pairwise fun f g => bytesBefore f.name g.name = true := by obtain ⟨s, rfl, h1, -⟩ := h; exact h1.sorted
theorem One.apart {w0 w : World} {B : Nat} {a : Ab} (h : One w0 B a w) : a.apart := by obtain ⟨s, rfl, h1, -⟩ := h; exact h1.apart'
theorem One.up {w0 w : World} {B : Nat} {a : Ab} (h : One w0 B a w) (g : a.good) (c : CallD) (hc : c.n ≤ 9223372036854775807) : a.up (a.call c).2 := g.call h.apart c hc
theorem ents_len (s : St) : s.ab.files.length = s.ents.length := by show (s.ents.map Ent.fl).length = _; rw [List.length_map]
theorem One.call {w0 w : World} {B : Nat} {a : Ab} (h : One w0 B a w) (g : a.good) (c : CallD) (hc : c.fit) :
    Calls Try.prog 16 #[.pointer (some ⟨B, 0, none⟩), .agg c.cells.toArray] w fun e w' => e = .returned (.agg #[.string ⟨(a.call c).1.1.toArray⟩, .int .i64 (a.call c).1.2]) ∧ One w0 B (a.call c).2 w' := by
  obtain ⟨s, rfl, h1, h2⟩ := h
  have hf := ents_len s
  refine (do_any w B w0.heap.size s c h1 g.ok (by have := g.few; omega) hc h2.size).mono ?_
  rintro e1 w' ⟨s', rfl, h3, h4⟩
  have := One.next h1 h2 h4
  rw [h3] at this
  exact ⟨rfl, this⟩
def LiPost (w0 : World) (B : Nat) (a : Ab) (w : World) (e : Ending) (w' : World) : Prop := ∃ p cap, e = .returned (.slice p a.files.length cap) ∧ FilesAt w' p a.files ∧ One w0 B a w' ∧ Below w.heap.size w w'
theorem ok_text {a : Ab} (g : a.ok) {f : Fl} (hf : f ∈ a.files) : f.text.length ≤ 262144 := by
  have h2 := total_mem hf
  have h3 := g.used
  have h5 := g.limit
  omega
theorem One.list {w0 w : World} {B : Nat} {a : Ab} (h : One w0 B a w) (g : a.good) : Calls Try.prog 19 #[.pointer (some ⟨B, 0, none⟩)] w (LiPost w0 B a w) := by
  obtain ⟨s, rfl, h1, h2⟩ := h
  have hf := ents_len s
  rcases Nat.eq_zero_or_pos s.ents.length with h0 | h0
  · refine (List0_any w B w0.heap.size s h1 (List.eq_nil_of_length_eq_zero h0)).mono ?_
    rintro e w' ⟨p, c, rfl, hown, hb⟩
    rw [← hf] at hown ⊢
    exact ⟨p, c, rfl, hown.files, One.more ⟨s, rfl, h1, h2⟩ hb, hb⟩
  · refine (List_any w B w0.heap.size s h1 (by have := g.few; omega) (fun f hfm => by have := ok_text g.ok (f := f.fl) (List.mem_map_of_mem hfm); have e : f.fl.text.length = f.text.length := rfl; omega)).mono ?_
    rintro e w' ⟨p, c, rfl, hown, hb⟩
    rw [← hf] at hown ⊢
    exact ⟨p, c, rfl, hown.files, One.more ⟨s, rfl, h1, h2⟩ hb, hb⟩
end Go.Proofs.Ytnncbbfbnccnbaa
