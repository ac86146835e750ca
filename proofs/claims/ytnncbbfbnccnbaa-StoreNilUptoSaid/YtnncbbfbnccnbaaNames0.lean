/- The program's names and Restart of a store without files. -/
import Derived.Test.YtnncbbfbnccnbaaRename
import Derived.Shelf.Slices.In.SortNone
namespace Go.Proofs.Ytnncbbfbnccnbaa
open Go.RowKit Go.Maps Go.Sort
attribute [local go_sem] gives givesUpon

theorem sort_none (p : Option Addr) (cap : Nat) (w : World) : Calls Try.prog 51 #[.slice p 0 cap] w fun e w' => e = .returned (.tuple #[]) ∧ w' = w := Any.slices_Sort_string_none Try.lays190 p cap w
set_option maxRecDepth 100000 in
set_option maxHeartbeats 4000000 in
theorem names0_any (w : World) (B base : Nat) (s : St) (h : s.At w B base) (h0 : s.ents = []) :
    Calls Try.prog 44 #[.pointer (some ⟨B, 0, none⟩)] w fun e w' => e = .returned (.slice none 0 0) ∧ Below w.heap.size w w' := by
  have q := h.six
  have hown := h.map
  rw [h0] at hown
  go_enter Try.func44, Try.ntmps44
  go_wp2_with (at_range; refine wpList_range_own _ rfl _ 45 rfl 9 60 strK Try.underlying45 _ s.mp _ _ rfl hown ?_; intro w0 hrg0 hg0 hs0)
  go_frame
  clear hs0
  go_loopw [3] (fun v wr => ∃ (left : Lit → Bool) (cnt : Nat), v = .slice none 0 0 ∧ wr.ranges Try.prog 9 ptrElem s.mp w.heap.size 0 (toD []) left cnt ∧ Hid (∀ kl, left kl = false) ∧ Below w.heap.size w wr)
    (fun _ wr => wr.rangeLeft s.mp w.heap.size)
  case atStart =>
    exact ⟨_, _, rfl, hrg0, (fun kl => rfl), (Below.refl _ _).grown hg0 (Nat.le_refl _) (fun j hj => by cases hj)⟩
  case round =>
    obtain ⟨left, cnt, rfl, hrg, hL, hnx⟩ := hrel
    go_wp2_with (at_next; refine wpList_next_ranges _ rfl _ rfl 9 strK ptrElem encStr Value.pointer (fun key kl hk => by obtain ⟨x, hx, _⟩ := Maps.keyOf_str Try.underlying9 hk; exact ⟨x, hx⟩) ptr_shape s.mp w.heap.size 0 _ _ _ rfl hrg ?_ ?_)
    · intro hc0 hl0
      have HNX := hid hnx
      clear hnx hrg hc0 hl0
      go_wp2_with fail
      refine (sort_none none 0 wr).mono ?_
      rintro e w' ⟨rfl, rfl⟩
      go_wp2_with fail
      go_ret
      exact ⟨rfl, HNX.out⟩
    · intro x c kl yd yp w2 cnt2 hkey hlk hv hat hrg2 hlt hg2 hs2 hen
      rw [hL.out] at hlk
      cases hlk

set_option maxRecDepth 100000 in
set_option maxHeartbeats 4000000 in
theorem Restart0_any (w : World) (B base : Nat) (s : St) (kept : Nat) (h : s.At w B base) (ok : s.ab.ok) (h0 : s.ents = []) :
    Calls Try.prog 25 #[.pointer (some ⟨B, 0, none⟩), .int .u64 kept] w (RsPost base B s (s.ab.restart kept) w) := by
  have q := h.six
  have z := h.row.lt
  have hst := h.fields (s' := ⟨s.limit, s.used, s.peak, s.mp, s.ents, false, 0⟩) (((But.refl [B] w).setCell (p := ⟨B, 4, none⟩) (.inl (by simp)) (.bool false)).setCell (p := ⟨B, 5, none⟩) (.inl (by simp)) (.int .i64 0)) ((h.row.set 4 (.bool false)).set 5 (.int .i64 0)) rfl rfl
  have HST := hid hst
  have hus : s.used = total (s.ents.map Ent.fl) := ok.used
  have HA : Hid (St.ab ⟨s.limit, s.used, s.peak, s.mp, s.ents, false, 0⟩ = s.ab.restart kept) := by
    show Ab.mk _ _ _ _ _ _ = Ab.mk _ (total (rsts kept 0 (s.ents.map Ent.fl))) _ (rsts kept 0 (s.ents.map Ent.fl)) _ _
    rw [hus, h0]
    rfl
  have H0 := hid h0
  clear hst ok hus h0 h
  go_enter Try.func25, Try.ntmps25
  go_wp2_with fail
  generalize ((w.setCell ⟨B, 4, none⟩ (.bool false)).setCell ⟨B, 5, none⟩ (.int .i64 0)) = y at HST ⊢
  clear q z
  refine (names0_any y B base _ HST.out.at' H0.out).mono ?_
  rintro e w1 ⟨rfl, hb1⟩
  have HS1 := hid (HST.out.more hb1 (Nat.le_refl _))
  clear hb1 HST
  go_wp2_with fail
  go_loopw [20] (fun i wr => i = .int .i64 0 ∧ wr = w1) (fun _ _ => 0)
  case atStart => exact ⟨rfl, rfl⟩
  case round =>
    obtain ⟨rfl, rfl⟩ := hrel
    go_wp2_with fail
    go_end0
    exact ⟨_, rfl, HA.out, HS1.out⟩
end Go.Proofs.Ytnncbbfbnccnbaa
