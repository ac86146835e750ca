/- The program's names: the names of the files, in their order. -/
import Derived.Test.YtnncbbfbnccnbaaCreate
import Derived.Test.YtnncbbfbnccnbaaLaid
import Derived.Sort.KeysCollected
import Derived.Sort.OwnSorted
import Derived.Maps.AppendAt
import Derived.OwnWalk
namespace Go.Proofs.Ytnncbbfbnccnbaa
open Go.RowKit Go.Maps Go.Sort
attribute [local go_sem] gives givesUpon

theorem info_str : (Try.prog.info? 9).map (fun i => (i.zero, i.size, i.bytes)) = some (some (.string ⟨#[]⟩), 1, 16) := by kernel_rfl
theorem sort_any (blk off cap : Nat) (ss : List (List UInt8)) (w : World) (hH : Holds encStr w blk off ss.toArray) (hblk : blk < w.heap.size) (hsz : ss.length < 4611686018427387904) :
    Calls Try.prog 51 #[.slice (some ⟨blk, off, none⟩) ss.length cap] w fun e w' => e = .returned (.tuple #[]) ∧ ∃ n os, w' = grow (putRow encStr (Sort.ahead w n) blk off (ss.mergeSort fun x y => decide (x ≤ y)).toArray) os :=
  Any.slices_Sort_string Try.lays190 blk off cap ss w hH hblk hsz
theorem strKeys_toD (l : List Ent) : strKeys (toD l) = l.map Ent.name := by
  unfold toD strKeys
  simp only [List.map_map]
  rfl
theorem ptr_shape (v : Value) (y : DataW Unit × List MemPlace) (h : ptrElem v = some y) : ∃ c : Option Addr, v = .pointer c := by
  unfold ptrElem at h
  split at h
  · exact ⟨none, rfl⟩
  · exact ⟨_, rfl⟩
  · cases h
theorem before_le : ∀ {a b : List UInt8}, (Lit.string a).before (.string b) = true → leB a b = true
  | [], _, _ => by simp [leB]
  | x :: a, [], h => by simp [Lit.before, bytesBefore] at h
  | x :: a, y :: b, h => by
    simp only [Lit.before, bytesBefore, Bool.or_eq_true, Bool.and_eq_true, decide_eq_true_eq, beq_iff_eq] at h
    simp only [leB, decide_eq_true_eq]
    rcases h with h | ⟨rfl, h⟩
    · exact List.cons_le_cons_iff.2 (.inl h)
    · have := before_le (a := a) (b := b) h
      simp only [leB, decide_eq_true_eq] at this
      exact List.cons_le_cons_iff.2 (.inr ⟨rfl, this⟩)
theorem names_sorted {w : World} {B base : Nat} {s : St} (h : s.At w B base) : (s.ents.map Ent.name).mergeSort leB = s.ents.map Ent.name := by
  obtain ⟨es, he, hp, -⟩ := h.map.canon strK
  apply List.mergeSort_of_pairwise
  have e : es = s.ents.map Ent.item := by
    unfold toD at he
    injection he with he
    exact he.symm
  subst e
  rw [List.pairwise_map] at hp ⊢
  refine hp.imp fun {a b} hab => ?_
  exact before_le hab
set_option maxRecDepth 100000 in
set_option maxHeartbeats 4000000 in
theorem names_any (w : World) (B base : Nat) (s : St) (h : s.At w B base) (hl : 1 ≤ s.ents.length ∧ s.ents.length ≤ 1000000) :
    Calls Try.prog 44 #[.pointer (some ⟨B, 0, none⟩)] w fun e w' => ∃ (g cap : Nat), e = .returned (.slice (some ⟨g, 0, none⟩) s.ents.length cap) ∧
      w'.ownsRow w.heap.size 9 1 (.slice (some ⟨g, 0, none⟩) s.ents.length cap) s.ents.length ((s.ents.map Ent.name).map encStr) ∧ Below w.heap.size w w' := by
  obtain ⟨i0, hi, hz0, hz1, hz2⟩ := info_parts info_str
  have q := h.six
  have hown := h.map
  have hbl := hown.lt
  have HNS := hid (names_sorted h)
  have hsz : Maps.size (toD s.ents) = s.ents.length := size_toD _
  have HSZ := hid hsz
  clear hsz
  go_enter Try.func44, Try.ntmps44
  go_wp2_with (at_range; refine wpList_range_own _ rfl _ 45 rfl 9 60 strK Try.underlying45 _ s.mp s.ents.length _ rfl hown ?_; intro w0 hrg0 hg0 hs0)
  go_frame
  clear hs0
  go_loopw [3] (fun v wr => ∃ (left : Lit → Bool) (cnt : Nat) (ss : List (List UInt8)), wr.ranges Try.prog 9 ptrElem s.mp w.heap.size s.ents.length (toD s.ents) left cnt ∧ ss.length + cnt ≤ s.ents.length ∧
      wr.ownsRow w.heap.size 9 1 v ss.length (ss.map encStr) ∧ Collected (toD s.ents) left ss ∧ Below w.heap.size w wr)
    (fun _ wr => wr.rangeLeft s.mp w.heap.size)
  case atStart =>
    exact ⟨_, _, [], hrg0, by rw [HSZ.out]; simp, World.ownsRow_nil _ _ _ _, Collected.start (toD s.ents), (Below.refl _ _).grown hg0 (Nat.le_refl _) (fun j hj => by cases hj)⟩
  case round =>
    obtain ⟨left, cnt, ss, hrg, hcs, hrow, hC, hnx⟩ := hrel
    go_wp2_with (at_next; refine wpList_next_ranges _ rfl _ rfl 9 strK ptrElem encStr Value.pointer (fun key kl hk => by obtain ⟨x, hx, _⟩ := Maps.keyOf_str Try.underlying9 hk; exact ⟨x, hx⟩) ptr_shape s.mp w.heap.size s.ents.length _ _ _ rfl hrg ?_ ?_)
    · intro hc0 hl0
      have hperm := hC.perm hown strK Try.underlying9 hl0
      have hlen : ss.length = s.ents.length := by
        have := hperm.length_eq
        rw [strKeys_toD, List.length_map] at this
        exact this
      rcases hrow.2 with ⟨hnil, h0⟩ | ⟨g, cap, cur, rfl, hbase, hb, h1, h2, h3, h4⟩
      · omega
      have hH : Holds encStr wr g 0 ss.toArray := holds_of_block hb (by simpa using h4)
      have hgl : g < wr.heap.size := (Array.getElem?_eq_some_iff.1 hb).1
      have hc := sort_any g 0 cap ss wr hH hgl (by omega)
      have hms : ss.mergeSort (fun x y => decide (x ≤ y)) = s.ents.map Ent.name := by
        have := mergeSort_of_perm hperm
        rw [strKeys_toD, HNS.out] at this
        exact this
      rw [hms] at hc
      have hfin := fun (nn : Nat) (os : Array Obj) => ownsRow_sorted (n := nn) (os := os) (e := 9) (ts := s.ents.map Ent.name) (ss := ss) (by simp [hlen]) hbase hb h1 h2 h3
      have HLEN := hid hlen
      have HFIN := hid hfin
      have HNX := hid hnx
      have HB := hid hbase
      clear hfin hlen hms hperm h3 h4 h1 h2 hH hrow hrg hcs hC hl0 hc0 hnx hbase
      go_wp2_with fail
      refine hc.mono ?_
      rintro e w' ⟨rfl, nn, os, hw'⟩
      have hf2 := HFIN.out nn os
      have hb2 : Below w.heap.size w w' := by rw [hw']; exact HNX.out.grown (grownBy_sorted _) HNX.out.size (fun j hj => by cases hj; exact HB.out)
      rw [← hw'] at hf2
      have HF2 := hid hf2
      have HB2 := hid hb2
      clear hf2 hb2 hw'
      go_wp2_with fail
      go_ret
      have hf3 := HF2.out
      rw [HLEN.out] at hf3
      exact ⟨g, cap, by rw [HLEN.out]; rfl, hf3, HB2.out⟩
    · intro x c kl yd yp w2 cnt2 hkey hlk hv hat hrg2 hlt hg2 hs2 hen
      obtain ⟨x', ex, rfl, _⟩ := Maps.keyOf_str Try.underlying9 hkey
      obtain rfl : x = x' := encStr_inj ex
      have hrow2 := hrow.kept hg2 (Or.inr (row_ne_iter hrow hrg).symm)
      clear hs2
      go_wp2_with (at_builtin; refine wpList_append_own _ rfl _ _ 22 rfl w.heap.size 9 i0 (.string ⟨#[]⟩) 1 16 Try.underlying22 hi hz0 hz1 hz2 rfl (by decide) _ _ _ rfl (hrow2.alloc _) ⟨w2.heap.size, 0, none⟩ 1 1 [encStr x] rfl rfl (cell_one_new _ _ _) (by simp [Value.oneCell', encStr]) (by unfold maxLen at *; omega) (by omega) (by have := hnx.size; have := hg2.size; simp; omega) ?_; intro v' w3 hown' hg3 hnil3)
      try go_frame
      have hrg3 := (hrg2.alloc (.cells #[encStr x] 9)).kept hg3 (row_ne_low hrow2 hbl) (row_ne_iter hrow2 hrg2)
      go_wp2_with fail
      go_roundw
      case rel =>
        refine ⟨_, cnt2, ss ++ [x], hrg3, by simp; omega, by simpa using hown', hC.step hlk hat, ?_⟩
        exact ((hnx.grown hg2 hnx.size (fun j hj => by cases hj; exact Nat.le_refl _)).alloc (by have := hnx.size; have := hg2.size; omega) _).grown hg3 (by have := hnx.size; have := hg2.size; simp; omega) (fun j hj => (hrow2.lt j hj).1)
      case measure => rw [hrg3.left_eq, hrg.left_eq]; exact hlt
end Go.Proofs.Ytnncbbfbnccnbaa
