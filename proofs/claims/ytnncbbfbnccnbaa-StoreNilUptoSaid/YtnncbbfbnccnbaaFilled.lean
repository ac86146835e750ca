/- The law's filled: a store after calls, calm; and a store beside blocks of the law's own. -/
import Derived.Test.YtnncbbfbnccnbaaCalm
namespace Go.Proofs.Ytnncbbfbnccnbaa
open Go.RowKit Go.Maps Go.Sort
attribute [local go_sem] gives givesUpon

def Ab.calm (a : Ab) : Prop := a.crash = false ∧ a.count = 0
theorem call_calm {a : Ab} (h : a.calm) (c : CallD) (hc : c.op ≠ 6) : (a.call c).2.calm := by
  by_cases h5 : 0 ≤ c.op ∧ c.op ≤ 5
  · exact (call_cnt h.1 h.2 (Int.le_refl 2) c h5).2.2
  · obtain ⟨op, nm, tx, st, n, kept⟩ := c
    simp only at hc h5
    unfold Ab.call
    simp only []
    rw [if_neg (by omega), if_neg (by omega), if_neg (by omega), if_neg (by omega), if_neg (by omega), if_neg (by omega), if_neg hc]
    split
    · exact ⟨rfl, rfl⟩
    · exact h
def FPost (w : World) (e : Ending) (w' : World) : Prop := e = .returned (.pointer (some ⟨w.heap.size + 1, 0, none⟩)) ∧ ∃ ab, One w (w.heap.size + 1) ab w' ∧ ab.good ∧ ab.calm
set_option maxRecDepth 100000 in
set_option maxHeartbeats 4000000 in
theorem Filled_any (w : World) (n : Int) (a : Option Addr) (cap : Nat) (l : List CallD) (hl : CallsAt w a l) (hn : l.length ≤ 4611686018427387904) (hf : CallsFit l) (hw : fewOk l) :
    Calls Try.prog 22 #[.int .i64 n, .slice a l.length cap] w (FPost w) := by
  have HL := hid hl
  have HF := hid hf
  have HFEW := hid hw
  clear hl hf hw
  go_enter Try.func22, Try.ntmps22
  go_wp2_with fail
  refine (One.new' n _).mono ?_
  rintro e w1 ⟨rfl, ho⟩
  have HO := hid ho
  have hg0 := good0 (min (max n 0) 262144) (by omega)
  have HG0 := hid hg0
  clear ho hg0
  generalize min (max n 0) 262144 = lim at *
  go_wp2_with fail
  go_loopw [6] (fun i wr => ∃ (k : Nat) (ab : Ab), k ≤ l.length ∧ i = .int .i64 k ∧ Hid (One w (w.heap.size + 1) ab wr) ∧ Hid ab.good ∧ Hid ab.calm) (fun i _ => l.length - (intOf i).toNat)
  case atStart => exact ⟨0, _, by omega, rfl, HO.out, HG0.out, ⟨rfl, rfl⟩⟩
  case round =>
    obtain ⟨k, ab, hk, rfl, HX, HG, HQ⟩ := hrel
    rcases Nat.lt_or_ge k l.length with hlt | hge
    · obtain ⟨b, o, rfl, hb, hc⟩ : ∃ b o, a = some ⟨b, o, none⟩ ∧ b < wr.heap.size ∧ ∀ i (h : i < l.length), CellsAt wr b (o + i * 6) l[i].cells := by
        rcases HL.out.below HX.out.below with h | h
        · rw [h] at hlt; cases hlt
        · exact h
      have hck := hc k hlt
      have HFT := hid (call_fit HF.out HFEW.out k hlt)
      generalize l[k] = c at *
      clear hc
      obtain ⟨op, nm, tx, st, cn, kept⟩ := c
      have HC : Hid (CellsAt wr b (o + k * 6) [.int .i64 op, .string nm, .string tx, .int .i64 st, .int .i64 cn, .int .u64 kept]) := hck
      clear hck
      have q := cells6 HC.out
      by_cases h6 : op = 6
      · subst h6
        go_wp2_with fail
        case roundEnd =>
          refine ⟨⟨k + 1, ab, hlt, rfl, HX.out, HG.out, HQ.out⟩, ?_⟩
          show l.length - ((k : Int) + 1).toNat < l.length - (k : Int).toNat
          omega
      · have HCALL := hid (HX.out.call HG.out (⟨op, nm, tx, st, cn, kept⟩ : CallD) HFT.out)
        have HUP := hid (HX.out.up HG.out (⟨op, nm, tx, st, cn, kept⟩ : CallD) HFT.out.n)
        have HQ2 := hid (call_calm HQ.out (⟨op, nm, tx, st, cn, kept⟩ : CallD) h6)
        have h6b : (op == 6) = false := by simpa using h6
        clear h6
        go_wp2_with fail
        refine HCALL.out.mono ?_
        rintro e w2 ⟨rfl, ho⟩
        have HO2 := hid ho
        clear ho
        go_wp2_with fail
        case roundEnd =>
          refine ⟨⟨k + 1, _, hlt, rfl, HO2.out, HUP.out.1, HQ2.out⟩, ?_⟩
          show l.length - ((k : Int) + 1).toNat < l.length - (k : Int).toNat
          omega
    · obtain rfl : k = l.length := by omega
      go_wp2_with fail
      go_ret
      exact ⟨rfl, ab, HX.out, HG.out, HQ.out⟩

/-- A store beside blocks of the law's own. -/
def OneX (w0 : World) (B : Nat) (X : List Nat) (a : Ab) (w : World) : Prop := ∃ s : St, s.ab = a ∧ s.At w B w0.heap.size ∧ Below w0.heap.size w0 w ∧ ∀ k, k ∈ X → k ∉ s.own B ∧ k < w.heap.size
def Kept (X : List Nat) (w w' : World) : Prop := w.heap.size ≤ w'.heap.size ∧ ∀ k, k ∈ X → w'.heap[k]? = w.heap[k]?
theorem Kept.trans {X : List Nat} {a b c : World} (h : Kept X a b) (k : Kept X b c) : Kept X a c := ⟨Nat.le_trans h.1 k.1, fun i hi => (k.2 i hi).trans (h.2 i hi)⟩
theorem Kept.below {X : List Nat} {w w' : World} (h : Below w.heap.size w w') (hX : ∀ k, k ∈ X → k < w.heap.size) : Kept X w w' := ⟨h.size, fun k hk => h.block k (hX k hk)⟩
section
variable {w0 w w' : World} {B : Nat} {X : List Nat} {a a' : Ab}
theorem OneX.one (h : OneX w0 B X a w) : One w0 B a w := by
  obtain ⟨s, e, h1, h2, -⟩ := h
  exact ⟨s, e, h1, h2⟩
theorem OneX.lt (h : OneX w0 B X a w) : ∀ k, k ∈ X → k < w.heap.size := by
  obtain ⟨s, e, h1, h2, h3⟩ := h
  exact fun k hk => (h3 k hk).2
theorem OneX.more (h : OneX w0 B X a w) (k : Below w.heap.size w w') : OneX w0 B X a w' := by
  obtain ⟨s, e, h1, h2, h3⟩ := h
  exact ⟨s, e, h1.below k (Nat.le_refl _), h2.trans (k.mono h2.size), fun i hi => ⟨(h3 i hi).1, Nat.lt_of_lt_of_le (h3 i hi).2 k.size⟩⟩
theorem OneX.step {s s' : St} (h1 : s.At w B w0.heap.size) (h2 : Below w0.heap.size w0 w) (h3 : ∀ k, k ∈ X → k ∉ s.own B ∧ k < w.heap.size) (k : Step w0.heap.size B s s' w w') : OneX w0 B X s'.ab w' ∧ Kept X w w' := by
  refine ⟨⟨s', rfl, k.at', h2.trans (k.below h1 (Nat.le_refl _) h2.size), fun i hi => ⟨fun ho => ?_, Nat.lt_of_lt_of_le (h3 i hi).2 k.but.size⟩⟩, k.but.size, fun i hi => k.but.block i (h3 i hi).2 (h3 i hi).1⟩
  rcases k.own i ho with h4 | h4
  · exact (h3 i hi).1 h4
  · have := (h3 i hi).2; omega
theorem OneX.add (h : OneX w0 B X a w) {Y : List Nat} (hY : ∀ k, k ∈ Y → w.heap.size ≤ k) (hb : Below w.heap.size w w') (hY2 : ∀ k, k ∈ Y → k < w'.heap.size) : OneX w0 B (X ++ Y) a w' := by
  obtain ⟨s, e, h1, h2, h3⟩ := h
  refine ⟨s, e, h1.below hb (Nat.le_refl _), h2.trans (hb.mono h2.size), fun k hk => ?_⟩
  rcases List.mem_append.1 hk with hk | hk
  · exact ⟨(h3 k hk).1, Nat.lt_of_lt_of_le (h3 k hk).2 hb.size⟩
  · exact ⟨fun ho => by have := (h1.blocks k ho).2; have := hY k hk; omega, hY2 k hk⟩
theorem OneX.fail (h : OneX w0 B X a w) (n : Int) : Calls Try.prog 23 #[.pointer (some ⟨B, 0, none⟩), .int .i64 n] w fun e w' => e = .returned (.tuple #[]) ∧ OneX w0 B X (a.fail n) w' ∧ Kept X w w' := by
  obtain ⟨s, rfl, h1, h2, h3⟩ := h
  refine (FailAfter_any w B w0.heap.size s n h1).mono ?_
  rintro e1 w' ⟨rfl, h4⟩
  have := OneX.step h1 h2 h3 h4
  have e : (if s.crash = true then s else { s with count := max n 0 }).ab = s.ab.fail n := by
    unfold Ab.fail
    show _ = if s.crash = true then _ else _
    split <;> rfl
  rw [e] at this
  exact ⟨rfl, this⟩
theorem OneX.create (h : OneX w0 B X a w) (ok : a.ok) (nm : ByteArray) (hn : nm.size ≤ 1000000000) {n : Int} (e : a.create nm.data.toList = (n, a')) :
    Calls Try.prog 10 #[.pointer (some ⟨B, 0, none⟩), .string nm] w fun e w' => e = .returned (.int .i64 n) ∧ OneX w0 B X a' w' ∧ Kept X w w' := by
  obtain ⟨s, rfl, h1, h2, h3⟩ := h
  refine (Create_any w B w0.heap.size s nm h1 ok hn h2.size).mono ?_
  rintro e1 w' ⟨s', rfl, hab, h4⟩
  rw [e] at hab ⊢
  have := OneX.step h1 h2 h3 h4
  rw [hab] at this
  exact ⟨rfl, this⟩
theorem OneX.sync (h : OneX w0 B X a w) (ok : a.ok) (nm : ByteArray) (hn : nm.size ≤ maxLen) {n : Int} (e : a.sync nm.data.toList = (n, a')) :
    Calls Try.prog 24 #[.pointer (some ⟨B, 0, none⟩), .string nm] w fun e w' => e = .returned (.int .i64 n) ∧ OneX w0 B X a' w' ∧ Kept X w w' := by
  obtain ⟨s, rfl, h1, h2, h3⟩ := h
  refine (Sync_any w B w0.heap.size s nm h1 ok hn h2.size).mono ?_
  rintro e1 w' ⟨s', rfl, hab, h4⟩
  rw [e] at hab ⊢
  have := OneX.step h1 h2 h3 h4
  rw [hab] at this
  exact ⟨rfl, this⟩
theorem OneX.restart (h : OneX w0 B X a w) (g : a.good) (kept : Nat) : Calls Try.prog 25 #[.pointer (some ⟨B, 0, none⟩), .int .u64 kept] w fun e w' => e = .returned (.tuple #[]) ∧ OneX w0 B X (a.restart kept) w' ∧ Kept X w w' := by
  obtain ⟨s, rfl, h1, h2, h3⟩ := h
  have hf := ents_len s
  refine (Restart2_any w B w0.heap.size s kept h1 g.ok (by have := g.few; omega) h2.size).mono ?_
  rintro e1 w' ⟨s', rfl, hab, h4⟩
  have := OneX.step h1 h2 h3 h4
  rw [hab] at this
  exact ⟨rfl, this⟩
def blkOf : Option Addr → List Nat
  | some a => [a.block]
  | none => []
def LxPost (w0 : World) (B : Nat) (X : List Nat) (a : Ab) (w : World) (e : Ending) (w' : World) : Prop := ∃ p cap, e = .returned (.slice p a.files.length cap) ∧ FilesAt w' p a.files ∧ OneX w0 B (X ++ blkOf p) a w' ∧ Below w.heap.size w w'
theorem OneX.list (h : OneX w0 B X a w) (g : a.good) : Calls Try.prog 19 #[.pointer (some ⟨B, 0, none⟩)] w (LxPost w0 B X a w) := by
  have hx := h
  obtain ⟨s, rfl, h1, h2, h3⟩ := h
  have hf := ents_len s
  refine (List_any w B w0.heap.size s h1 (by have := g.few; omega) (fun f hfm => by have := ok_text g.ok (f := f.fl) (List.mem_map_of_mem hfm); have e : f.fl.text.length = f.text.length := rfl; omega)).mono ?_
  rintro e w' ⟨p, c, rfl, hown, hb⟩
  rw [← hf] at hown ⊢
  have hp : ∀ k, k ∈ blkOf p → w.heap.size ≤ k ∧ k < w'.heap.size := by
    intro k hk
    cases p with
    | none => cases hk
    | some ad =>
      obtain rfl : k = ad.block := by simpa [blkOf] using hk
      obtain ⟨hlen, hx⟩ := id hown
      rcases hx with ⟨hv, -⟩ | ⟨g', c', cur, hv, -⟩
      · cases hv
      · injection hv with e1
        injection e1 with e1
        subst e1
        exact hown.lt g' rfl
  exact ⟨p, c, rfl, hown.files, hx.add (fun k hk => (hp k hk).1) hb (fun k hk => (hp k hk).2), hb⟩
theorem FilesAt.kept {p : Option Addr} {L : List Fl} (h : FilesAt w p L) (hk : Kept X w w') (hX : ∀ k, k ∈ blkOf p → k ∈ X) : FilesAt w' p L := by
  rcases h with h | ⟨b, rfl, h1, h2⟩
  · exact .inl h
  · refine .inr ⟨b, rfl, Nat.lt_of_lt_of_le h1 hk.1, fun i hi j v hj => ?_⟩
    have e := hk.2 b (hX b (by simp [blkOf]))
    rw [← h2 i hi j v hj]
    unfold World.cell?
    simp only [e]
/-- A list of texts to be read. -/
def TextsAt (w : World) (p : Option Addr) (L : List (List UInt8)) : Prop := L = [] ∨ ∃ b, p = some ⟨b, 0, none⟩ ∧ b < w.heap.size ∧ ∀ i (h : i < L.length), w.cell? ⟨b, i, none⟩ = some (.string ⟨L[i].toArray⟩)
theorem TextsAt.kept {p : Option Addr} {L : List (List UInt8)} (h : TextsAt w p L) (hk : Kept X w w') (hX : ∀ k, k ∈ blkOf p → k ∈ X) : TextsAt w' p L := by
  rcases h with h | ⟨b, rfl, h1, h2⟩
  · exact .inl h
  · refine .inr ⟨b, rfl, Nat.lt_of_lt_of_le h1 hk.1, fun i hi => ?_⟩
    have e := hk.2 b (hX b (by simp [blkOf]))
    rw [← h2 i hi]
    unfold World.cell?
    simp only [e]
theorem One.x (h : One w0 B a w) : OneX w0 B [] a w := by
  obtain ⟨s, e, h1, h2⟩ := h
  exact ⟨s, e, h1, h2, fun k hk => by cases hk⟩
end
end Go.Proofs.Ytnncbbfbnccnbaa
