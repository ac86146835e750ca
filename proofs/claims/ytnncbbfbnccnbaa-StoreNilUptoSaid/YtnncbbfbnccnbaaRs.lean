/- The reference's store: its state in memory; fails, place, begin. -/
import Derived.Test.YtnncbbfbnccnbaaPair
import Derived.Test.YtnncbbfbnccnbaaOneOps
import Derived.OneCell
namespace Go.Proofs.Ytnncbbfbnccnbaa
open Go.RowKit
attribute [local go_sem] gives givesUpon

def rcells (f : Fl) : List Value := [.string ⟨f.name.toArray⟩, .string ⟨f.text.toArray⟩, .int .i64 f.sync]
structure RS where
  limit : Int
  v : Value
  files : List Fl
  peak : Int
  crash : Bool
  count : Int
def RS.cells (s : RS) : List Value := [.int .i64 s.limit, s.v, .int .i64 s.peak, .bool s.crash, .int .i64 s.count]
def RS.ab (s : RS) : Ab := ⟨s.limit, total s.files, s.peak, s.files, s.crash, s.count⟩
def RS.own (s : RS) (B : Nat) : List Nat := B :: (match s.v.ownBlock with | some g => [g] | none => [])
def OwnR (w : World) (base : Nat) (v : Value) (L : List Fl) : Prop := w.ownsRow base 74 3 v L.length (L.flatMap rcells)
structure RS.At (w : World) (B base : Nat) (s : RS) : Prop where
  row : Row w B s.cells 68
  files : OwnR w base s.v s.files
  lo : base ≤ B
section
variable {w w' : World} {B base : Nat} {s s' : RS} {v : Value} {L : List Fl}
theorem ownsRow_heap {e : TypeId} {size n : Nat} {xs : List Value} (h : w.ownsRow base e size v n xs) (hk : ∀ g, v.ownBlock = some g → w'.heap[g]? = w.heap[g]?) : w'.ownsRow base e size v n xs := by
  obtain ⟨h1, h2⟩ := h
  refine ⟨h1, ?_⟩
  rcases h2 with h2 | ⟨g, cap, cur, hv, hg, hh, r⟩
  · exact .inl h2
  · subst hv
    exact .inr ⟨g, cap, cur, rfl, hg, (hk g rfl).trans hh, r⟩
/-- A cell of what is owned is set. -/
theorem ownsRow_set {e : TypeId} {size n : Nat} {xs : List Value} {g cap : Nat} (h : w.ownsRow base e size (.slice (some ⟨g, 0, none⟩) n cap) n xs) (j : Nat) (_hj : j < xs.length) (u : Value) : (w.setCell ⟨g, j, none⟩ u).ownsRow base e size (.slice (some ⟨g, 0, none⟩) n cap) n (xs.set j u) := by
  obtain ⟨h1, h2⟩ := h
  refine ⟨by rw [List.length_set]; exact h1, ?_⟩
  rcases h2 with ⟨h2, -⟩ | ⟨g', cap', cur, hv, hg, hh, h3, h4, h5, h6⟩
  · cases h2
  · injection hv with e1 e2 e3
    injection e1 with e1
    injection e1 with e1
    subst e1 e3
    refine .inr ⟨g, cap, cur.setIfInBounds j u, rfl, hg, ?_, h3, h4, by simp [h5], ?_⟩
    · have := (Array.getElem?_eq_some_iff.1 hh).1
      simp [World.setCell, Array.getElem?_modify, hh]
    · rw [← h6, Array.toList_setIfInBounds, List.take_set]
theorem OwnR.form (h : OwnR w base v L) (hL : 0 < L.length) : ∃ g cap, v = .slice (some ⟨g, 0, none⟩) L.length cap ∧ g < w.heap.size := by
  obtain ⟨-, h2⟩ := id h
  rcases h2 with ⟨-, h2⟩ | ⟨g, cap, cur, hv, -⟩
  · omega
  · exact ⟨g, cap, hv, (h.lt g (by rw [hv]; rfl)).2⟩
theorem flatR3 : ∀ (L : List Fl) (i j : Nat) (h : i < L.length), j < 3 → (L.flatMap rcells)[i * 3 + j]? = (rcells L[i])[j]?
  | x :: L, 0, j, _, hj => by
    rw [List.flatMap_cons, List.getElem?_append_left (by show _ < 3; omega)]
    simp
  | x :: L, i + 1, j, h, hj => by
    rw [List.flatMap_cons, List.getElem?_append_right (by show 3 ≤ _; omega)]
    have e : (i + 1) * 3 + j - (rcells x).length = i * 3 + j := by show _ - 3 = _; omega
    rw [e, flatR3 L i j (by simpa using h) hj]
    rfl
theorem OwnR.cells {g n cap : Nat} (h : OwnR w base (.slice (some ⟨g, 0, none⟩) n cap) L) (i : Nat) (hi : i < L.length) :
    w.cell? ⟨g, i * 3, none⟩ = some (.string ⟨L[i].name.toArray⟩) ∧ w.cell? ⟨g, i * 3 + 1, none⟩ = some (.string ⟨L[i].text.toArray⟩) ∧ w.cell? ⟨g, i * 3 + 2, none⟩ = some (.int .i64 L[i].sync) := by
  have key : ∀ j u, j < 3 → (rcells L[i])[j]? = some u → w.cell? ⟨g, i * 3 + j, none⟩ = some u := by
    intro j u hj hu
    have h1 := World.ownsRow.cells h (g := g) rfl (i * 3 + j) u (by rw [flatR3 L i j hi hj]; exact hu)
    rw [Addr.add_lit, Nat.zero_add] at h1
    exact h1
  exact ⟨key 0 _ (by omega) rfl, key 1 _ (by omega) rfl, key 2 _ (by omega) rfl⟩
theorem OwnR.free {g n cap : Nat} (h : OwnR w base (.slice (some ⟨g, 0, none⟩) n cap) L) (o : Nat) : w.frozen? ⟨g, o, none⟩ = false := by
  obtain ⟨-, h2⟩ := h
  rcases h2 with ⟨h2, -⟩ | ⟨g', cap', cur, hv, -, hh, -⟩
  · cases h2
  · injection hv with e1
    injection e1 with e1
    injection e1 with e1
    subst e1
    simp [World.frozen?, hh]
theorem RS.At.ne (h : s.At w B base) {g : Nat} (hg : s.v.ownBlock = some g) : g ≠ B := by
  intro e
  subst e
  obtain ⟨-, h2⟩ := id h.files
  rcases h2 with ⟨hv, -⟩ | ⟨g', cap, cur, hv, -, hh, -⟩
  · rw [hv] at hg; cases hg
  · rw [hv] at hg
    have e2 : g' = g := by simpa [Value.ownBlock] using hg
    subst e2
    have r := h.row
    unfold Row at r
    rw [hh] at r
    simp only [Option.some.injEq, Obj.cells.injEq] at r
    exact absurd r.2.1 (by decide)
theorem RS.At.blocks (h : s.At w B base) : ∀ k, k ∈ s.own B → base ≤ k ∧ k < w.heap.size := by
  intro k hk
  unfold RS.own at hk
  rcases List.mem_cons.1 hk with rfl | hk
  · exact ⟨h.lo, h.row.lt⟩
  · cases hv : s.v.ownBlock with
    | none => rw [hv] at hk; cases hk
    | some g =>
      rw [hv] at hk
      obtain rfl : k = g := by simpa using hk
      exact h.files.lt k hv
theorem RS.mem (s : RS) (B : Nat) {g : Nat} (hg : s.v.ownBlock = some g) : g ∈ s.own B := by unfold RS.own; rw [hg]; simp
theorem RS.At.kept (h : s.At w B base) (hk : ∀ k, k ∈ s.own B → w'.heap[k]? = w.heap[k]?) : s.At w' B base :=
  ⟨(hk B (by unfold RS.own; simp)).trans h.row, ownsRow_heap h.files fun _ hg => hk _ (s.mem B hg), h.lo⟩
theorem RS.At.below {n : Nat} (h : s.At w B base) (hb : Below n w w') (hn : w.heap.size ≤ n) : s.At w' B base := h.kept fun k hk => hb.block k (by have := h.blocks k hk; omega)
def rsK : Kind RS where
  At w B base s := s.At w B base
  own s B := s.own B
  blocks h := h.blocks
  kept h := h.kept
structure RStep (base B : Nat) (s s' : RS) (w w' : World) : Prop where
  at' : s'.At w' B base
  but : But (s.own B) w w'
  own : ∀ k, k ∈ s'.own B → k ∈ s.own B ∨ w.heap.size ≤ k
theorem RStep.moved (h : RStep base B s s' w w') : Moved rsK base B s s' w w' := ⟨h.at', h.but, h.own⟩
theorem RStep.refl (h : s.At w B base) : RStep base B s s w w := ⟨h, But.refl _ _, fun _ hk => .inl hk⟩
theorem RStep.trans {s'' : RS} {w'' : World} (h : RStep base B s s' w w') (k : RStep base B s' s'' w' w'') : RStep base B s s'' w w'' :=
  ⟨k.at', h.but.later k.but h.own, fun i hi => by
    rcases k.own i hi with h1 | h1
    · exact h.own i h1
    · exact .inr (Nat.le_trans h.but.size h1)⟩
theorem RStep.more {n : Nat} {w'' : World} (h : RStep base B s s' w w') (hb : Below n w' w'') (hn : w'.heap.size ≤ n) : RStep base B s s' w w'' :=
  h.trans ⟨h.at'.below hb hn, ⟨hb.os, hb.tape, hb.output, hb.size, fun k hk _ => hb.block k (by omega)⟩, fun _ hk => .inl hk⟩
theorem But.into {S S' : List Nat} (h : But S w w') (hs : ∀ k, k ∈ S → k ∈ S') : But S' w w' := h.mono fun k hk => .inl (hs k hk)
/-- New cells of the store's own block. -/
theorem RS.At.fields (h : s.At w B base) (hb : But [B] w w') (hr : Row w' B s'.cells 68) (hv : s'.v = s.v) (hf : s'.files = s.files) : RStep base B s s' w w' := by
  refine ⟨⟨hr, ?_, h.lo⟩, hb.into fun k hk => ?_, fun k hk => .inl ?_⟩
  · rw [hv, hf]
    refine ownsRow_heap h.files fun g hg => hb.block g (h.files.lt g hg).2 fun hm => h.ne hg (by simpa using hm)
  · obtain rfl : k = B := by simpa using hk
    unfold RS.own; simp
  · unfold RS.own at hk ⊢
    rwa [hv] at hk
/-- New files, in a block that is new. -/
theorem RS.At.fresh {b1 : Nat} (h : s.At w B base) (hb : But [B] w w') (hr : Row w' B s'.cells 68) (ho : OwnR w' b1 s'.v s'.files) (hb1 : w.heap.size ≤ b1) (hbase : base ≤ w.heap.size) : RStep base B s s' w w' := by
  refine ⟨⟨hr, ownsRow_base ho (Nat.le_trans hbase hb1), h.lo⟩, hb.into fun k hk => ?_, fun k hk => ?_⟩
  · obtain rfl : k = B := by simpa using hk
    unfold RS.own; simp
  · unfold RS.own at hk
    rcases List.mem_cons.1 hk with rfl | hk
    · exact .inl (by unfold RS.own; simp)
    · cases hv : s'.v.ownBlock with
      | none => rw [hv] at hk; cases hk
      | some g =>
        rw [hv] at hk
        obtain rfl : k = g := by simpa using hk
        exact .inr (Nat.le_trans hb1 (ho.lt k hv).1)
/-- The files' own cells are written. -/
theorem RS.At.filled (h : s.At w B base) {g : Nat} (hg : s.v.ownBlock = some g) (hb : But [g] w w') (hc : s'.cells = s.cells) (hv : s'.v = s.v) (ho : OwnR w' base s'.v s'.files) : RStep base B s s' w w' := by
  have hne := h.ne hg
  refine ⟨⟨?_, ho, h.lo⟩, hb.into fun k hk => ?_, fun k hk => .inl ?_⟩
  · rw [hc]
    exact h.row.but hb (by simp; exact fun e => hne e.symm)
  · obtain rfl : k = g := by simpa using hk
    exact s.mem B hg
  · unfold RS.own at hk ⊢
    rwa [hv] at hk
theorem Row.five {w : World} {B : Nat} {a b c d e : Value} {T : TypeId} (h : Row w B [a, b, c, d, e] T) :
    (w.cell? ⟨B, 0, none⟩ = some a ∧ w.cell? ⟨B, 1, none⟩ = some b ∧ w.cell? ⟨B, 2, none⟩ = some c ∧ w.cell? ⟨B, 3, none⟩ = some d ∧ w.cell? ⟨B, 4, none⟩ = some e) ∧
    (w.frozen? ⟨B, 0, none⟩ = false ∧ w.frozen? ⟨B, 1, none⟩ = false ∧ w.frozen? ⟨B, 2, none⟩ = false ∧ w.frozen? ⟨B, 3, none⟩ = false ∧ w.frozen? ⟨B, 4, none⟩ = false) :=
  ⟨⟨h.cell 0, h.cell 1, h.cell 2, h.cell 3, h.cell 4⟩, h.free 0, h.free 1, h.free 2, h.free 3, h.free 4⟩
end
def RS.began (s : RS) : RS := if s.crash = true then s else if s.count = 1 then { s with crash := true, count := 0 } else if 1 < s.count then { s with count := s.count - 1 } else s
theorem RS.ab_began (s : RS) : s.began.ab = s.ab.began := by
  unfold RS.began Ab.began
  show _ = if s.crash = true then _ else if s.count = 1 then _ else if 1 < s.count then _ else _
  split
  · rfl
  split
  · rfl
  split <;> rfl
theorem RS.began_same (s : RS) : s.began.files = s.files ∧ s.began.v = s.v ∧ s.began.limit = s.limit ∧ s.began.peak = s.peak := by
  unfold RS.began
  split
  · exact ⟨rfl, rfl, rfl, rfl⟩
  split
  · exact ⟨rfl, rfl, rfl, rfl⟩
  split <;> exact ⟨rfl, rfl, rfl, rfl⟩
/-- A count that a store of the reference may have. -/
def RS.cnt (s : RS) : Prop := 0 ≤ s.count ∧ s.count ≤ 9223372036854775807 ∧ (s.crash = true → s.count = 0)
set_option maxHeartbeats 2000000 in
theorem fails_any (w : World) (B base : Nat) (s : RS) (h : s.At w B base) (hc : s.cnt) :
    Calls Try.prog 46 #[.pointer (some ⟨B, 0, none⟩)] w fun e w' => e = .returned (.bool s.began.crash) ∧ RStep base B s s.began w w' := by
  have q := Row.five h.row
  have z := h.row.lt
  have H := hid h
  obtain ⟨limit, v, files, peak, crash, count⟩ := s
  obtain ⟨hc1, hc2, hc3⟩ := hc
  simp only at q hc1 hc2 hc3
  have HST : Hid (∀ (c1 : Bool) (n1 : Int) (w' : World), But [B] w w' → Row w' B [.int .i64 limit, v, .int .i64 peak, .bool c1, .int .i64 n1] 68 → (RS.mk limit v files peak crash count).began = ⟨limit, v, files, peak, c1, n1⟩ → RStep base B ⟨limit, v, files, peak, crash, count⟩ (RS.mk limit v files peak crash count).began w w') := by
    intro c1 n1 w' hb hr e
    rw [e]
    exact H.out.fields hb hr rfl rfl
  have HR := hid H.out.row
  clear h H
  rcases Bool.eq_false_or_eq_true crash with rfl | rfl
  · have e0 : count = 0 := hc3 rfl
    subst e0
    clear hc3
    go_enter Try.func46, Try.ntmps46
    go_wp2_with fail
    all_goals go_ret
    all_goals
      refine ⟨by simp [RS.began], HST.out true 0 _ ((But.refl [B] w).setCell (.inl (by simp)) _) (HR.out.set 4 (.int .i64 0)) (by simp [RS.began])⟩
  · clear hc3
    by_cases h1 : count = 1
    · subst h1
      go_enter Try.func46, Try.ntmps46
      go_wp2_with fail
      all_goals go_ret
      all_goals
        refine ⟨by simp [RS.began], HST.out true 0 _ (((But.refl [B] w).setCell (.inl (by simp)) _).setCell (.inl (by simp)) _) ((HR.out.set 3 (.bool true)).set 4 (.int .i64 0)) (by simp [RS.began])⟩
    · have d1 : (count == 1) = false := by simpa using h1
      rcases Int.lt_or_le 1 count with h2 | h2
      · have HB : Hid ((RS.mk limit v files peak false count).began = ⟨limit, v, files, peak, false, count - 1⟩) := by
          show _ = _
          unfold RS.began
          simp only [Bool.false_eq_true, if_false]
          rw [if_neg h1, if_pos h2]
        clear h1
        have hmx : max 0 (count - 1) = count - 1 := by omega
        go_enter Try.func46, Try.ntmps46
        go_wp2_with fail
        all_goals go_ret
        all_goals
          exact ⟨by rw [HB.out]; rfl, HST.out false (count - 1) _ ((But.refl [B] w).setCell (.inl (by simp)) _) (HR.out.set 4 (.int .i64 (count - 1))) HB.out⟩
      · have e0 : count = 0 := by omega
        subst e0
        clear h1 h2
        go_enter Try.func46, Try.ntmps46
        go_wp2_with fail
        all_goals go_ret
        all_goals
          refine ⟨by simp [RS.began], HST.out false 0 _ ((But.refl [B] w).setCell (.inl (by simp)) _) (HR.out.set 4 (.int .i64 0)) (by simp [RS.began])⟩
/-- Where the file of a name lies. -/
def placeOf (nm : List UInt8) (L : List Fl) : Int := match L.findIdx? (fun f => f.name == nm) with
  | some i => (i : Nat)
  | none => -1
theorem placeOf_some {nm : List UInt8} {L : List Fl} (k : Nat) (hk : k < L.length) (h1 : ∀ j (h : j < L.length), j < k → (L[j].name == nm) = false) (h2 : (L[k].name == nm) = true) : placeOf nm L = (k : Nat) := by
  unfold placeOf
  have : L.findIdx? (fun f => f.name == nm) = some k := by
    rw [List.findIdx?_eq_some_iff_getElem]
    exact ⟨hk, h2, fun j hj => by simpa using h1 j (by omega) hj⟩
  rw [this]
theorem placeOf_none {nm : List UInt8} {L : List Fl} (h1 : ∀ j (h : j < L.length), (L[j].name == nm) = false) : placeOf nm L = -1 := by
  unfold placeOf
  have : L.findIdx? (fun f => f.name == nm) = none := by
    rw [List.findIdx?_eq_none_iff]
    intro x hx
    obtain ⟨j, hj, rfl⟩ := List.mem_iff_getElem.1 hx
    exact h1 j hj
  rw [this]
set_option maxHeartbeats 2000000 in
theorem place_any (w : World) (B base : Nat) (s : RS) (nm : ByteArray) (h : s.At w B base) (hn : s.files.length ≤ 1000000) :
    Calls Try.prog 47 #[.pointer (some ⟨B, 0, none⟩), .string nm] w fun e w' => e = .returned (.int .i64 (placeOf nm.data.toList s.files)) ∧ w' = w := by
  have q := Row.five h.row
  have HF := hid h.files
  obtain ⟨av, cv, hv⟩ := ownsRow_shape h.files
  obtain ⟨limit, v, files, peak, crash, count⟩ := s
  simp only at q hv HF hn
  subst hv
  clear h
  have HP1 := hid (fun k hk h1 h2 => @placeOf_some nm.data.toList files k hk h1 h2)
  have HP2 := hid (fun h1 => @placeOf_none nm.data.toList files h1)
  show Calls _ _ _ _ fun e w' => e = .returned (.int .i64 (placeOf nm.data.toList files)) ∧ w' = w
  generalize placeOf nm.data.toList files = ans at *
  go_enter Try.func47, Try.ntmps47
  go_wp2_with fail
  go_loopw [5] (fun i wr => ∃ k : Nat, k ≤ files.length ∧ i = .int .i64 k ∧ wr = w ∧ Hid (∀ j (h : j < files.length), j < k → (files[j].name == nm.data.toList) = false)) (fun i _ => files.length - (intOf i).toNat)
  case atStart => exact ⟨0, by omega, rfl, rfl, fun j h hj => absurd hj (by omega)⟩
  case round =>
    obtain ⟨k, hk, rfl, rfl, HK⟩ := hrel
    rcases Nat.lt_or_ge k files.length with hlt | hge
    · obtain ⟨g, cap, hv, hg⟩ := HF.out.form (by omega)
      injection hv with e1 e2 e3
      subst e1 e3
      obtain ⟨c0, c1, c2⟩ := HF.out.cells k hlt
      have hkI : (k : Int) < (files.length : Int) := by omega
      rcases Bool.eq_false_or_eq_true (files[k].name == nm.data.toList) with hb | hb
      · have ha := HP1.out k hlt HK.out hb
        subst ha
        have he : files[k].name = nm.data.toList := by simpa using hb
        rw [he] at c0
        clear hb he
        go_wp2_with fail
        all_goals go_ret
        all_goals exact ⟨rfl, rfl⟩
      · have HB := hid hb
        rw [← ByteArray.toList_eq] at hb
        go_wp2_with fail
        refine ⟨⟨k + 1, hlt, rfl, trivial, fun j h hj => ?_⟩, ?_⟩
        · rcases Nat.lt_or_ge j k with h1 | h1
          · exact HK.out j h h1
          · obtain rfl : j = k := by omega
            exact HB.out
        · show files.length - ((k : Int) + 1).toNat < files.length - (k : Int).toNat
          omega
    · obtain rfl : k = files.length := by omega
      have ha := HP2.out (fun j h => HK.out j h h)
      subst ha
      go_wp2_with fail
      all_goals go_ret
      all_goals exact ⟨rfl, rfl⟩
end Go.Proofs.Ytnncbbfbnccnbaa
