/- What a call does, plainly, and what always holds of a store: sizes, names. No program. -/
import Derived.Test.YtnncbbfbnccnbaaRename
import Derived.Test.YtnncbbfbnccnbaaNames0
namespace Go.Proofs.Ytnncbbfbnccnbaa
open Go.RowKit

/-- A call of a method. -/
structure CallD where
  op : Int
  name : ByteArray
  text : ByteArray
  start : Int
  n : Int
  kept : Nat
def Ab.fail (a : Ab) (n : Int) : Ab := if a.crash = true then a else { a with count := max n 0 }
def lift (r : Int × Ab) : (List UInt8 × Int) × Ab := (([], r.1), r.2)
def Ab.call (a : Ab) (c : CallD) : (List UInt8 × Int) × Ab :=
  if c.op = 0 then lift (a.create c.name.data.toList) else
  if c.op = 1 then lift (a.append c.name.data.toList c.text.data.toList) else
  if c.op = 2 then (((a.read c.name.data.toList c.start c.n).1, (a.read c.name.data.toList c.start c.n).2.1), (a.read c.name.data.toList c.start c.n).2.2) else
  if c.op = 3 then lift (a.sync c.name.data.toList) else
  if c.op = 4 then lift (a.rename c.name.data.toList c.text.data.toList) else
  if c.op = 5 then lift (a.remove c.name.data.toList) else
  if c.op = 6 then (([], 0), a.fail c.n) else
  if c.op = 7 then (([], 0), a.restart c.kept) else (([], 0), a)
structure Ab.good (a : Ab) : Prop where
  ok : a.ok
  few : a.files.length ≤ 64
  names : ∀ f, f ∈ a.files → nameOk f.name = true
def Ab.apart (a : Ab) : Prop := a.files.Pairwise fun f g => (f.name == g.name) = false

theorem upd_len (nm : List UInt8) (g : Fl → Fl) : ∀ l : List Fl, (upd nm g l).length = l.length
  | [] => rfl
  | x :: l => by
    unfold upd
    split
    · rfl
    · simp only [List.length_cons]; rw [upd_len nm g l]
theorem upd_mem {nm : List UInt8} {g : Fl → Fl} {x : Fl} : ∀ {l : List Fl}, x ∈ upd nm g l → x ∈ l ∨ ∃ f, f ∈ l ∧ x = g f
  | y :: l, h => by
    unfold upd at h
    split at h
    · rcases List.mem_cons.1 h with h | h
      · exact .inr ⟨y, by simp, h⟩
      · exact .inl (by simp [h])
    · rcases List.mem_cons.1 h with h | h
      · exact .inl (by simp [h])
      · rcases upd_mem h with h | ⟨f, h1, h2⟩
        · exact .inl (by simp [h])
        · exact .inr ⟨f, by simp [h1], h2⟩
theorem upd_total (nm : List UInt8) (g : Fl → Fl) (k : Nat) (hg : ∀ f, (g f).text.length = f.text.length + k) : ∀ {l : List Fl} {f : Fl}, l.find? (fun f => f.name == nm) = some f → total (upd nm g l) = total l + k
  | x :: l, f, h => by
    rw [List.find?_cons] at h
    unfold upd
    cases hx : x.name == nm with
    | true =>
      rw [if_pos rfl]
      simp only [total, hg]
      omega
    | false =>
      rw [hx] at h
      rw [if_neg (by simp)]
      simp only [total]
      rw [upd_total nm g k hg h]
      omega
theorem ins_len (f : Fl) : ∀ l : List Fl, (ins f l).length = l.length + 1
  | [] => rfl
  | x :: l => by
    unfold ins
    split
    · rfl
    · simp only [List.length_cons]; rw [ins_len f l]
theorem ins_mem {f x : Fl} : ∀ {l : List Fl}, x ∈ ins f l → x = f ∨ x ∈ l
  | [], h => by simp [ins] at h; exact .inl h
  | y :: l, h => by
    unfold ins at h
    split at h
    · rcases List.mem_cons.1 h with h | h
      · exact .inl h
      · exact .inr h
    · rcases List.mem_cons.1 h with h | h
      · exact .inr (by simp [h])
      · rcases ins_mem h with h | h
        · exact .inl h
        · exact .inr (by simp [h])
theorem ins_total (f : Fl) : ∀ l : List Fl, total (ins f l) = f.text.length + total l
  | [] => rfl
  | x :: l => by
    unfold ins
    split
    · rfl
    · simp only [total]; rw [ins_total f l]; omega
theorem filter_none {nm : List UInt8} {l : List Fl} (h : ∀ f, f ∈ l → (f.name == nm) = false) : l.filter (fun f => !(f.name == nm)) = l := List.filter_eq_self.2 fun f hf => by simp [h f hf]
theorem filter_total {nm : List UInt8} : ∀ {l : List Fl} {f : Fl}, l.Pairwise (fun f g => (f.name == g.name) = false) → l.find? (fun f => f.name == nm) = some f → total (l.filter fun f => !(f.name == nm)) + f.text.length = total l
  | x :: l, f, hp, h => by
    rw [List.pairwise_cons] at hp
    rw [List.find?_cons] at h
    cases hx : x.name == nm with
    | true =>
      rw [hx] at h
      have e : x = f := by simpa using h
      subst e
      rw [List.filter_cons_of_neg (by simp [hx]), filter_none ?_]
      · simp only [total]; omega
      · intro g hg
        have := hp.1 g hg
        have e : x.name = nm := by simpa using hx
        rw [← e]
        rw [beq_eq_false_iff_ne] at this ⊢
        exact Ne.symm this
    | false =>
      rw [hx] at h
      rw [List.filter_cons_of_pos (by simp [hx])]
      simp only [total]
      have := filter_total hp.2 h
      omega

theorem began_same (a : Ab) : a.began.limit = a.limit ∧ a.began.used = a.used ∧ a.began.peak = a.peak ∧ a.began.files = a.files := by
  unfold Ab.began
  split
  · exact ⟨rfl, rfl, rfl, rfl⟩
  split
  · exact ⟨rfl, rfl, rfl, rfl⟩
  split <;> exact ⟨rfl, rfl, rfl, rfl⟩
theorem Ab.good.began {a : Ab} (h : a.good) : a.began.good := by
  obtain ⟨-, -, -, h4⟩ := began_same a
  exact ⟨h.ok.began, by rw [h4]; exact h.few, by rw [h4]; exact h.names⟩
theorem Ab.apart.began {a : Ab} (h : a.apart) : a.began.apart := by
  obtain ⟨-, -, -, h4⟩ := began_same a
  unfold Ab.apart
  rw [h4]; exact h
/-- What a call may do to the sizes. -/
def Ab.up (a b : Ab) : Prop := b.good ∧ b.limit = a.limit ∧ a.peak ≤ b.peak
theorem Ab.good.up {a : Ab} (h : a.good) : a.up a := ⟨h, rfl, Int.le_refl _⟩
theorem Ab.up.began {a b : Ab} (h : a.began.up b) : a.up b := by
  obtain ⟨h1, -, h3, -⟩ := began_same a
  obtain ⟨k1, k2, k3⟩ := h
  exact ⟨k1, k2.trans h1, by rw [← h3]; exact k3⟩
theorem Ab.good.create {a : Ab} (h : a.good) (nm : List UInt8) : a.up (a.create nm).2 := by
  apply Ab.up.began
  have hb := h.began
  unfold Ab.create
  generalize a.began = b at *
  split
  · exact hb.up
  split
  · exact hb.up
  rename_i hn
  cases hf : b.find nm with
  | some f => exact hb.up
  | none =>
    show b.up (if _ then _ else _ : Int × Ab).2
    split
    · exact hb.up
    · rename_i hl
      refine ⟨⟨⟨?_, hb.ok.limit, hb.ok.peak, ?_, hb.ok.count⟩, ?_, ?_⟩, rfl, Int.le_refl _⟩
      · show b.used = total (ins _ b.files)
        rw [ins_total, hb.ok.used]
        show _ = (((0 : Nat) + _ : Nat) : Int)
        omega
      · intro f hf
        rcases ins_mem hf with rfl | hf
        · exact ⟨Int.le_refl _, Int.le_refl _⟩
        · exact hb.ok.sync f hf
      · show (ins _ b.files).length ≤ 64
        rw [ins_len]; omega
      · intro f hf
        rcases ins_mem hf with rfl | hf
        · simpa using hn
        · exact hb.names f hf
theorem Ab.good.append {a : Ab} (h : a.good) (nm tx : List UInt8) : a.up (a.append nm tx).2 := by
  apply Ab.up.began
  have hb := h.began
  unfold Ab.append
  generalize a.began = b at *
  split
  · exact hb.up
  cases hf : b.find nm with
  | none => exact hb.up
  | some f =>
    show b.up (if _ then _ else _ : Int × Ab).2
    split
    · exact hb.up
    · rename_i hl
      have h1 := hb.ok.used
      have h2 := hb.ok.limit
      have h3 := hb.ok.peak
      have h4 := upd_total nm (fun f => { f with text := f.text ++ tx }) tx.length (fun f => by simp) hf
      refine ⟨⟨⟨?_, ⟨?_, h2.2⟩, ⟨?_, ?_⟩, ?_, hb.ok.count⟩, ?_, ?_⟩, rfl, ?_⟩
      · show b.used + tx.length = total (upd _ _ b.files)
        rw [h4]; omega
      · show b.used + tx.length ≤ b.limit
        omega
      · show b.used + tx.length ≤ max b.peak (b.used + tx.length)
        omega
      · show max b.peak (b.used + tx.length) ≤ b.limit
        omega
      · intro x hx
        rcases upd_mem hx with hx | ⟨y, hy, rfl⟩
        · exact hb.ok.sync x hx
        · have := hb.ok.sync y hy
          refine ⟨this.1, ?_⟩
          show y.sync ≤ (y.text ++ tx).length
          rw [List.length_append]; omega
      · show (upd _ _ b.files).length ≤ 64
        rw [upd_len]; exact hb.few
      · intro x hx
        rcases upd_mem hx with hx | ⟨y, hy, rfl⟩
        · exact hb.names x hx
        · exact hb.names y hy
      · show b.peak ≤ max b.peak (b.used + tx.length)
        omega
theorem Ab.good.sync {a : Ab} (h : a.good) (nm : List UInt8) : a.up (a.sync nm).2 := by
  apply Ab.up.began
  have hb := h.began
  unfold Ab.sync
  generalize a.began = b at *
  split
  · exact hb.up
  cases hf : b.find nm with
  | none => exact hb.up
  | some f =>
    have h4 := upd_total nm (fun f => { f with sync := f.text.length }) 0 (fun f => rfl) hf
    refine ⟨⟨⟨?_, hb.ok.limit, hb.ok.peak, ?_, hb.ok.count⟩, ?_, ?_⟩, rfl, Int.le_refl _⟩
    · show b.used = total (upd _ _ b.files)
      rw [h4]; exact hb.ok.used
    · intro x hx
      rcases upd_mem hx with hx | ⟨y, hy, rfl⟩
      · exact hb.ok.sync x hx
      · show (0 : Int) ≤ y.text.length ∧ (y.text.length : Int) ≤ y.text.length
        omega
    · show (upd _ _ b.files).length ≤ 64
      rw [upd_len]; exact hb.few
    · intro x hx
      rcases upd_mem hx with hx | ⟨y, hy, rfl⟩
      · exact hb.names x hx
      · exact hb.names y hy
theorem Ab.good.read {a : Ab} (h : a.good) (nm : List UInt8) (i n : Int) : a.up (a.read nm i n).2.2 := by
  apply Ab.up.began
  have hb := h.began
  unfold Ab.read
  generalize a.began = b at *
  split
  · exact hb.up
  cases hf : b.find nm with
  | none => exact hb.up
  | some f =>
    show b.up (if _ then _ else _ : List UInt8 × Int × Ab).2.2
    split <;> exact hb.up
theorem Ab.good.dropped {a : Ab} (h : a.good) (hp : a.apart) (nm : List UInt8) : a.up (a.dropped nm) := by
  unfold Ab.dropped
  cases hf : a.find nm with
  | none => exact h.up
  | some f =>
    have h1 := h.ok.used
    have h2 := h.ok.limit
    have h3 := h.ok.peak
    have h4 := filter_total hp hf
    refine ⟨⟨⟨?_, ⟨?_, h2.2⟩, ⟨?_, h3.2⟩, ?_, h.ok.count⟩, ?_, ?_⟩, rfl, Int.le_refl _⟩
    · show a.used - f.text.length = total (a.files.filter _)
      omega
    · show a.used - f.text.length ≤ a.limit
      omega
    · show a.used - f.text.length ≤ a.peak
      omega
    · intro x hx
      exact h.ok.sync x (List.mem_filter.1 hx).1
    · exact Nat.le_trans (List.length_filter_le _ _) h.few
    · intro x hx
      exact h.names x (List.mem_filter.1 hx).1
theorem dropped_sub (a : Ab) (nm : List UInt8) : (a.dropped nm).files.Sublist a.files := by
  unfold Ab.dropped
  cases a.find nm with
  | none => exact List.Sublist.refl _
  | some f => exact List.filter_sublist
theorem Ab.good.remove {a : Ab} (h : a.good) (hp : a.apart) (nm : List UInt8) : a.up (a.remove nm).2 := by
  apply Ab.up.began
  have hb := h.began
  have hq := hp.began
  unfold Ab.remove
  generalize a.began = b at *
  split
  · exact hb.up
  cases hf : b.find nm with
  | none => exact hb.up
  | some f => exact hb.dropped hq nm
theorem dropped_find {a : Ab} {nm nw : List UInt8} {f : Fl} (hf : a.find nm = some f) (hne : ¬ nm = nw) : (a.dropped nw).find nm = some f := by
  unfold Ab.dropped
  cases hw : a.find nw with
  | none => exact hf
  | some g =>
    show (a.files.filter _).find? _ = some f
    rw [List.find?_filter]
    rw [← hf]
    unfold Ab.find
    congr 1
    funext x
    cases hx : x.name == nm with
    | false => simp
    | true =>
      have e : x.name = nm := by simpa using hx
      have : (x.name == nw) = false := by rw [e, beq_eq_false_iff_ne]; exact hne
      simp [this]
theorem Ab.good.rename {a : Ab} (h : a.good) (hp : a.apart) (nm nw : List UInt8) : a.up (a.rename nm nw).2 := by
  apply Ab.up.began
  have hb := h.began
  have hq := hp.began
  unfold Ab.rename
  generalize a.began = b at *
  split
  · exact hb.up
  cases hf : b.find nm with
  | none => exact hb.up
  | some f =>
    show b.up (if _ then _ else if _ then _ else _ : Int × Ab).2
    split
    · exact hb.up
    rename_i hnw
    split
    · exact hb.up
    rename_i hne
    obtain ⟨hd, hd1, hd2⟩ := hb.dropped hq nw
    have hfd := dropped_find hf hne
    have hdp : (b.dropped nw).files.Pairwise fun f g => (f.name == g.name) = false := hq.sublist (dropped_sub b nw)
    have h4 := filter_total hdp hfd
    have hfm : f ∈ (b.dropped nw).files := List.mem_of_find?_eq_some hfd
    have hlen : ((b.dropped nw).files.filter fun g => !(g.name == nm)).length < (b.dropped nw).files.length := by
      rw [List.length_filter_lt_length_iff_exists]
      refine ⟨f, hfm, ?_⟩
      have : (f.name == nm) = true := by
        have := List.find?_some hf
        exact this
      simp [this]
    refine ⟨⟨⟨?_, hd.ok.limit, hd.ok.peak, ?_, hd.ok.count⟩, ?_, ?_⟩, hd1, hd2⟩
    · show (b.dropped nw).used = total (ins _ _)
      rw [ins_total, hd.ok.used]
      show _ = ((f.text.length + _ : Nat) : Int)
      omega
    · intro x hx
      rcases ins_mem hx with rfl | hx
      · exact hd.ok.sync f hfm
      · exact hd.ok.sync x (List.mem_filter.1 hx).1
    · show (ins _ _).length ≤ 64
      rw [ins_len]
      have := hd.few
      omega
    · intro x hx
      rcases ins_mem hx with rfl | hx
      · simpa using hnw
      · exact hd.names x (List.mem_filter.1 hx).1
theorem rsts_len (kept : Nat) : ∀ (l : List Fl) (i : Nat), (rsts kept i l).length = l.length
  | [], _ => rfl
  | x :: l, i => by simp only [rsts, List.length_cons]; rw [rsts_len kept l]
theorem rsts_mem {kept : Nat} {x : Fl} : ∀ {l : List Fl} {i : Nat}, x ∈ rsts kept i l → ∃ f j, f ∈ l ∧ x = rst kept j f
  | y :: l, i, h => by
    unfold rsts at h
    rcases List.mem_cons.1 h with h | h
    · exact ⟨y, i, by simp, h⟩
    · obtain ⟨f, j, h1, h2⟩ := rsts_mem h
      exact ⟨f, j, by simp [h1], h2⟩
theorem Ab.good.restart {a : Ab} (h : a.good) (kept : Nat) : a.up (a.restart kept) := by
  have h1 := h.ok.used
  have h2 := h.ok.limit
  have h3 := h.ok.peak
  have h4 := rsts_total kept a.files 0
  refine ⟨⟨⟨rfl, ⟨?_, h2.2⟩, ⟨?_, h3.2⟩, ?_, by show (0 : Int) ≤ 0 ∧ (0 : Int) ≤ 9223372036854775807; omega⟩, ?_, ?_⟩, rfl, Int.le_refl _⟩
  · show (total (rsts kept 0 a.files) : Int) ≤ a.limit
    omega
  · show (total (rsts kept 0 a.files) : Int) ≤ a.peak
    omega
  · intro x hx
    obtain ⟨f, j, hf, rfl⟩ := rsts_mem hx
    have hs := h.ok.sync f hf
    show (0 : Int) ≤ (keep f.text.length f.sync.toNat (kb kept j) : Nat) ∧ ((keep f.text.length f.sync.toNat (kb kept j) : Nat) : Int) ≤ (f.text.take (keep f.text.length f.sync.toNat (kb kept j))).length
    rw [List.length_take]
    unfold keep
    omega
  · show (rsts kept 0 a.files).length ≤ 64
    rw [rsts_len]; exact h.few
  · intro x hx
    obtain ⟨f, j, hf, rfl⟩ := rsts_mem hx
    exact h.names f hf
theorem Ab.good.fail {a : Ab} (h : a.good) (n : Int) (hn : n ≤ 9223372036854775807) : a.up (a.fail n) := by
  unfold Ab.fail
  split
  · exact h.up
  · exact ⟨⟨⟨h.ok.used, h.ok.limit, h.ok.peak, h.ok.sync, by show (0 : Int) ≤ max n 0 ∧ max n 0 ≤ 9223372036854775807; omega⟩, h.few, h.names⟩, rfl, Int.le_refl _⟩
theorem Ab.good.call {a : Ab} (h : a.good) (hp : a.apart) (c : CallD) (hn : c.n ≤ 9223372036854775807) : a.up (a.call c).2 := by
  unfold Ab.call
  split
  · exact h.create _
  split
  · exact h.append _ _
  split
  · exact h.read _ _ _
  split
  · exact h.sync _
  split
  · exact h.rename hp _ _
  split
  · exact h.remove hp _
  split
  · exact h.fail _ hn
  split
  · exact h.restart _
  · exact h.up
/-- A store that lies in memory has its files in the order of their names. -/
theorem St.At.sorted {w : World} {B base : Nat} {s : St} (h : s.At w B base) : s.ab.files.Pairwise fun f g => bytesBefore f.name g.name = true := by
  obtain ⟨es, he, hp, -⟩ := h.map.canon strK
  have e : es = s.ents.map Ent.item := by
    unfold toD at he
    injection he with he
    exact he.symm
  subst e
  show (s.ents.map Ent.fl).Pairwise _
  rw [List.pairwise_map] at hp ⊢
  exact hp
theorem St.At.apart' {w : World} {B base : Nat} {s : St} (h : s.At w B base) : s.ab.apart := by
  show (s.ents.map Ent.fl).Pairwise _
  rw [List.pairwise_map]
  exact names_apart h
end Go.Proofs.Ytnncbbfbnccnbaa
