/- The reference's repeated: what stands for a repetition that does not stay. -/
import Derived.Test.YthnpbopnpdlmnaaX10
namespace Go.Proofs.Ythnpbopnpdlmnaa
open Go.RowKit
attribute [local go_sem] gives givesUpon


structure RAt (S : Nat → Prop) (w : World) (ca : List Value) (v : Value) (L : List (Re × List Value)) (wr : World) : Prop where
  own : OwnRes wr (w.heap.size + 3) (Sb S w (w.heap.size + 3)) v L
  ra : Row wr w.heap.size ca 28
  rz : Row wr (w.heap.size + 1) [.int .i64 0, .int .u64 0, .int .u64 0, .int .u64 0, .int .u64 0, .int .i64 0, .int .i64 0, .int .i64 0, .slice none 0 0] 28
  re : Row wr (w.heap.size + 2) [.int .i64 3, .int .u64 0, .int .u64 0, .int .u64 0, .int .u64 0, .int .i64 0, .int .i64 0, .int .i64 0, v] 28
  bw : Below w.heap.size w wr
theorem RAt.later {S : Nat → Prop} {w : World} {ca : List Value} {v : Value} {L : List (Re × List Value)} {wr x : World} (h : RAt S w ca v L wr) (hb : Below wr.heap.size wr x) : RAt S w ca v L x :=
  ⟨h.own.below hb, h.ra.below hb h.ra.lt, h.rz.below hb h.rz.lt, h.re.below hb h.re.lt, h.bw.trans (hb.mono h.bw.size)⟩
theorem RAt.push {S : Nat → Prop} {w : World} {ca : List Value} {a a' : Option Addr} {n n' c c' : Nat} {L : List (Re × List Value)} {t : Re} {cs : List Value} {x x' : World} (h : RAt S w ca (.slice a n c) L x) (hn : n' = L.length + 1)
    (ho : x'.ownsRow (w.heap.size + 3) 28 9 (.slice a' n' c') n' (L.flatMap Prod.snd ++ cs)) (hg : x.grownBy x' (Value.slice a n c).ownBlock) (hnew : ∀ g, (Value.slice a' n' c').ownBlock = some g → (Value.slice a n c).ownBlock = some g ∨ x.heap.size ≤ g)
    (ht : t.InS (fun k => Sb S w (w.heap.size + 3) k ∧ (Value.slice a n c).ownBlock ≠ some k) x cs) : RAt S w ca (.slice a' n' c') (L ++ [(t, cs)]) (x'.setCell ⟨w.heap.size + 2, 8, none⟩ (.slice a' n' c')) ∧ Row x' (w.heap.size + 2) [.int .i64 3, .int .u64 0, .int .u64 0, .int .u64 0, .int .u64 0, .int .i64 0, .int .i64 0, .int .i64 0, .slice a n c] 28 := by
  have hv : ∀ g, (Value.slice a n c).ownBlock = some g → w.heap.size + 3 ≤ g := fun g hg => (h.own.lt g hg).1
  have hs := h.re.lt
  have hbl : ∀ j, j < w.heap.size + 3 → x'.heap[j]? = x.heap[j]? := fun j hj => grown_block hg hv j hj (by omega)
  have hp := h.own.push hn ho hg hnew ht
  have hre : Row x' (w.heap.size + 2) [.int .i64 3, .int .u64 0, .int .u64 0, .int .u64 0, .int .u64 0, .int .i64 0, .int .i64 0, .int .i64 0, .slice a n c] 28 := (hbl _ (by omega)).trans h.re
  have hra : Row x' w.heap.size ca 28 := (hbl _ (by omega)).trans h.ra
  have hrz : Row x' (w.heap.size + 1) [.int .i64 0, .int .u64 0, .int .u64 0, .int .u64 0, .int .u64 0, .int .i64 0, .int .i64 0, .int .i64 0, .slice none 0 0] 28 := (hbl _ (by omega)).trans h.rz
  have hbw : Below w.heap.size w x' := ⟨hg.os.trans h.bw.os, hg.tape.trans h.bw.tape, hg.output.trans h.bw.output, Nat.le_trans h.bw.size hg.size, fun j hj => (hbl j (by omega)).trans (h.bw.block j hj)⟩
  refine ⟨⟨?_, hra.other (by omega) _ _, hrz.other (by omega) _ _, hre.set 8 _, hbw.setCell (by show w.heap.size ≤ w.heap.size + 2; omega) _⟩, hre⟩
  exact hp.but (M := w.heap.size + 2) ((But.refl _ _).setCell (.inl (by simp)) _) (fun g hg => by have := (hp.lt g hg).1; omega) (fun h => by rcases h with h | h <;> omega)
theorem rept_in {S : Nat → Prop} {w x : World} {t : Re} {cs : List Value} {B : Nat} (lo hi : Int) (hx : t.InS (fun k => S k ∧ k < w.heap.size) x cs) (hw : w.heap.size ≤ B) (hr : Row x B cs 28) (hlo : I64 lo) (hhi : I64 hi) : (t.rept lo hi).InS (fun k => (S k ∧ k < w.heap.size) ∨ B ≤ k) x [.int .i64 5, .int .u64 0, .int .u64 0, .int .u64 0, .int .u64 0, .int .i64 lo, .int .i64 hi, .int .i64 0, .slice (some ⟨B, 0, none⟩) 1 1] :=
  OwnRes.node (OwnRes.same (n := 1) (base := B) hr (Nat.le_refl _) (by decide) (by simp) (hx.step (Nat.le_refl _) fun k hk _ => ⟨⟨.inl hk, by omega⟩, rfl⟩)) (fun k hk => .inr hk) (Pay.ofRep lo hi) (Pay.ofRep_wf hlo hhi)

set_option maxRecDepth 100000 in
set_option maxHeartbeats 8000000 in
theorem repeated_any (S : Nat → Prop) (t : Re) (lo hi : Int) (w : World) (cs : List Value) (hx : t.InS S w cs) (hlo : 0 ≤ lo ∧ lo ≤ 64) (hhi : hi = -1 ∨ (lo ≤ hi ∧ hi ≤ 64)) (hns : ¬ ((lo = 0 ∧ hi = 1) ∨ (lo ≤ 1 ∧ hi = -1))) :
    Calls Try.prog 95 #[.agg cs.toArray, .int .i64 lo, .int .i64 hi] w fun e w' => ∃ cs', e = .returned (.agg cs'.toArray) ∧ (t.counted lo hi).InS (fun k => S k ∨ w.heap.size ≤ k) w' cs' ∧ Below w.heap.size w w' := by
  obtain ⟨p, ad, m, cap, rfl⟩ := Re.cells_shape hx.self
  have HT := hid hx.lim
  have HX0 := hid hx
  obtain ⟨hl1, hl2⟩ := hlo
  have c1 : ¬ ((lo = 0 ∧ (hi = 1 ∨ hi = -1)) ∨ (lo = 1 ∧ hi = -1)) := by omega
  clear hx
  by_cases c2 : hi = 0
  · obtain rfl := c2
    obtain rfl : lo = 0 := by omega
    have e1 := hid (show t.counted 0 0 = .mk (Pay.of 1) [] by unfold Re.counted; rw [if_neg c1, if_pos rfl])
    clear hhi c1 hns
    go_enter Try.func95, Try.ntmps95
    go_wp2_with fail
    have hr : Row ((w.alloc (.cells #[.int .i64 p.op, .int .u64 p.set.a, .int .u64 p.set.b, .int .u64 p.set.c, .int .u64 p.set.d, .int .i64 p.lo, .int .i64 p.hi, .int .i64 p.gr, .slice ad m cap] 28)).alloc (.cells #[.int .i64 1, .int .u64 0, .int .u64 0, .int .u64 0, .int .u64 0, .int .i64 0, .int .i64 0, .int .i64 0, .slice none 0 0] 28)) (w.heap.size + 1) [.int .i64 1, .int .u64 0, .int .u64 0, .int .u64 0, .int .u64 0, .int .i64 0, .int .i64 0, .int .i64 0, .slice none 0 0] 28 := Row.new (cs := [.int .i64 1, .int .u64 0, .int .u64 0, .int .u64 0, .int .u64 0, .int .i64 0, .int .i64 0, .int .i64 0, .slice none 0 0]) (by simp)
    refine ret_row 6 28 rfl (w.heap.size + 1) rfl [.int .i64 1, .int .u64 0, .int .u64 0, .int .u64 0, .int .u64 0, .int .i64 0, .int .i64 0, .int .i64 0, .slice none 0 0] (CellsAt.of_row (T := 28) hr) _ Try.underlying28 rfl (size_relen rfl) rfl ?_
    refine ⟨_, rfl, ?_, ((Below.refl _ w).alloc (Nat.le_refl _) _).alloc (by simp) _⟩
    rw [e1.out]
    exact (OwnRes.nil _ w.heap.size _).node (fun k hk => .inr hk) (Pay.of 1) (Pay.of_wf ⟨by decide, by decide⟩)
  by_cases c3 : lo = 1 ∧ hi = 1
  · obtain ⟨rfl, rfl⟩ := c3
    have e1 := hid (show t.counted 1 1 = t by unfold Re.counted; rw [if_neg c1, if_neg c2, if_pos ⟨rfl, rfl⟩])
    clear hhi c1 c2 hns
    go_enter Try.func95, Try.ntmps95
    go_wp2_with fail
    have hr : Row ((w.alloc (.cells #[.int .i64 p.op, .int .u64 p.set.a, .int .u64 p.set.b, .int .u64 p.set.c, .int .u64 p.set.d, .int .i64 p.lo, .int .i64 p.hi, .int .i64 p.gr, .slice ad m cap] 28)).alloc (.cells #[.int .i64 p.op, .int .u64 p.set.a, .int .u64 p.set.b, .int .u64 p.set.c, .int .u64 p.set.d, .int .i64 p.lo, .int .i64 p.hi, .int .i64 p.gr, .slice ad m cap] 28)) (w.heap.size + 1) [.int .i64 p.op, .int .u64 p.set.a, .int .u64 p.set.b, .int .u64 p.set.c, .int .u64 p.set.d, .int .i64 p.lo, .int .i64 p.hi, .int .i64 p.gr, .slice ad m cap] 28 := Row.new (cs := [.int .i64 p.op, .int .u64 p.set.a, .int .u64 p.set.b, .int .u64 p.set.c, .int .u64 p.set.d, .int .i64 p.lo, .int .i64 p.hi, .int .i64 p.gr, .slice ad m cap]) (by simp)
    refine ret_row 6 28 rfl (w.heap.size + 1) rfl [.int .i64 p.op, .int .u64 p.set.a, .int .u64 p.set.b, .int .u64 p.set.c, .int .u64 p.set.d, .int .i64 p.lo, .int .i64 p.hi, .int .i64 p.gr, .slice ad m cap] (CellsAt.of_row (T := 28) hr) _ Try.underlying28 rfl (size_relen rfl) rfl ?_
    have hb : Below w.heap.size w ((w.alloc (.cells #[.int .i64 p.op, .int .u64 p.set.a, .int .u64 p.set.b, .int .u64 p.set.c, .int .u64 p.set.d, .int .i64 p.lo, .int .i64 p.hi, .int .i64 p.gr, .slice ad m cap] 28)).alloc (.cells #[.int .i64 p.op, .int .u64 p.set.a, .int .u64 p.set.b, .int .u64 p.set.c, .int .u64 p.set.d, .int .i64 p.lo, .int .i64 p.hi, .int .i64 p.gr, .slice ad m cap] 28)) := ((Below.refl _ w).alloc (Nat.le_refl _) _).alloc (by simp) _
    refine ⟨[.int .i64 p.op, .int .u64 p.set.a, .int .u64 p.set.b, .int .u64 p.set.c, .int .u64 p.set.d, .int .i64 p.lo, .int .i64 p.hi, .int .i64 p.gr, .slice ad m cap], rfl, ?_, hb⟩
    rw [e1.out]
    exact HX0.out.step hb.size fun k hk hl => ⟨.inl hk, hb.block k hl⟩
  obtain ⟨n, rfl⟩ := Int.eq_ofNat_of_zero_le hl1
  have d0 : (hi == 0) = false := by simpa using c2
  by_cases c5 : hi = -1
  · obtain rfl := c5
    have hn2 : 2 ≤ n := by omega
    have e1 := hid (show t.counted n (-1) = .mk (Pay.of 3) (List.replicate (n - 1) t ++ [t.rept 1 (-1)]) by unfold Re.counted; rw [if_neg c1, if_neg c2, if_neg c3, if_neg (by omega), if_pos rfl, show (((n : Nat) : Int) - 1).toNat = n - 1 by omega])
    have d1 : (((n : Nat) : Int) == 1) = false := by simp <;> omega
    clear hhi c1 c2 c3 hns
    go_enter Try.func95, Try.ntmps95
    go_wp2_with fail
    go_loopw [8] (fun i wr => ∃ (k : Nat) (a : Option Addr) (c : Nat) (L : List (Re × List Value)), k ≤ n ∧ i = .int .i64 k ∧ Hid (L.length = k ∧ L.map Prod.fst = (if k = n then List.replicate (n - 1) t ++ [t.rept 1 (-1)] else List.replicate k t)) ∧ Hid (RAt S w [.int .i64 p.op, .int .u64 p.set.a, .int .u64 p.set.b, .int .u64 p.set.c, .int .u64 p.set.d, .int .i64 p.lo, .int .i64 p.hi, .int .i64 p.gr, .slice ad m cap] (.slice a k c) L wr)) (fun i _ => n - (intOf i).toNat)
    case atStart =>
      exact ⟨0, none, 0, [], by omega, rfl, ⟨rfl, by rw [if_neg (by omega)]; rfl⟩, OwnRes.nil _ _ _, ((Row.new (cs := [.int .i64 p.op, .int .u64 p.set.a, .int .u64 p.set.b, .int .u64 p.set.c, .int .u64 p.set.d, .int .i64 p.lo, .int .i64 p.hi, .int .i64 p.gr, .slice ad m cap]) rfl).alloc _).alloc _, (Row.new (cs := [.int .i64 0, .int .u64 0, .int .u64 0, .int .u64 0, .int .u64 0, .int .i64 0, .int .i64 0, .int .i64 0, .slice none 0 0]) (by simp)).alloc _, Row.new (cs := [.int .i64 3, .int .u64 0, .int .u64 0, .int .u64 0, .int .u64 0, .int .i64 0, .int .i64 0, .int .i64 0, .slice none 0 0]) (by simp), (((Below.refl _ w).alloc (Nat.le_refl _) _).alloc (by simp) _).alloc (by simp; omega) _⟩
    case round =>
      obtain ⟨k, a, c, L, hk, rfl, HL, HX⟩ := hrel
      have q1 := HX.out.ra.c9
      have q3 := HX.out.re.c9
      have z1 := HX.out.ra.lt
      have z3 := HX.out.re.lt
      by_cases hlt : k < n
      · by_cases hkn : k = n - 1
        · have dk : (((k : Nat) : Int) == ((n : Nat) : Int) - 1) = true := by simp; omega
          have HKN := hid hkn
          clear hkn
          have HG : Hid (Below wr.heap.size wr ((wr.alloc (.cells #[.int .i64 p.op, .int .u64 p.set.a, .int .u64 p.set.b, .int .u64 p.set.c, .int .u64 p.set.d, .int .i64 p.lo, .int .i64 p.hi, .int .i64 p.gr, .slice ad m cap] 28)).alloc (.cells #[.int .i64 5, .int .u64 0, .int .u64 0, .int .u64 0, .int .u64 0, .int .i64 1, .int .i64 (-1), .int .i64 0, .slice (some ⟨wr.heap.size, 0, none⟩) 1 1] 28))) := ((Below.refl _ wr).alloc (Nat.le_refl _) _).alloc (by simp) _
          have HN1 : Hid (Row ((wr.alloc (.cells #[.int .i64 p.op, .int .u64 p.set.a, .int .u64 p.set.b, .int .u64 p.set.c, .int .u64 p.set.d, .int .i64 p.lo, .int .i64 p.hi, .int .i64 p.gr, .slice ad m cap] 28)).alloc (.cells #[.int .i64 5, .int .u64 0, .int .u64 0, .int .u64 0, .int .u64 0, .int .i64 1, .int .i64 (-1), .int .i64 0, .slice (some ⟨wr.heap.size, 0, none⟩) 1 1] 28)) wr.heap.size [.int .i64 p.op, .int .u64 p.set.a, .int .u64 p.set.b, .int .u64 p.set.c, .int .u64 p.set.d, .int .i64 p.lo, .int .i64 p.hi, .int .i64 p.gr, .slice ad m cap] 28) := (Row.new (cs := [.int .i64 p.op, .int .u64 p.set.a, .int .u64 p.set.b, .int .u64 p.set.c, .int .u64 p.set.d, .int .i64 p.lo, .int .i64 p.hi, .int .i64 p.gr, .slice ad m cap]) rfl).alloc _
          have HN : Hid (Row ((wr.alloc (.cells #[.int .i64 p.op, .int .u64 p.set.a, .int .u64 p.set.b, .int .u64 p.set.c, .int .u64 p.set.d, .int .i64 p.lo, .int .i64 p.hi, .int .i64 p.gr, .slice ad m cap] 28)).alloc (.cells #[.int .i64 5, .int .u64 0, .int .u64 0, .int .u64 0, .int .u64 0, .int .i64 1, .int .i64 (-1), .int .i64 0, .slice (some ⟨wr.heap.size, 0, none⟩) 1 1] 28)) (wr.heap.size + 1) [.int .i64 5, .int .u64 0, .int .u64 0, .int .u64 0, .int .u64 0, .int .i64 1, .int .i64 (-1), .int .i64 0, .slice (some ⟨wr.heap.size, 0, none⟩) 1 1] 28) := Row.new (cs := [.int .i64 5, .int .u64 0, .int .u64 0, .int .u64 0, .int .u64 0, .int .i64 1, .int .i64 (-1), .int .i64 0, .slice (some ⟨wr.heap.size, 0, none⟩) 1 1]) (by simp)
          have HIN : Hid ((t.rept 1 ((-1))).InS (fun i => Sb S w (w.heap.size + 3) i ∧ (Value.slice a k c).ownBlock ≠ some i) ((wr.alloc (.cells #[.int .i64 p.op, .int .u64 p.set.a, .int .u64 p.set.b, .int .u64 p.set.c, .int .u64 p.set.d, .int .i64 p.lo, .int .i64 p.hi, .int .i64 p.gr, .slice ad m cap] 28)).alloc (.cells #[.int .i64 5, .int .u64 0, .int .u64 0, .int .u64 0, .int .u64 0, .int .i64 1, .int .i64 (-1), .int .i64 0, .slice (some ⟨wr.heap.size, 0, none⟩) 1 1] 28)) [.int .i64 5, .int .u64 0, .int .u64 0, .int .u64 0, .int .u64 0, .int .i64 1, .int .i64 (-1), .int .i64 0, .slice (some ⟨wr.heap.size, 0, none⟩) 1 1]) := (rept_in 1 ((-1)) (HT.out.below (HX.out.bw.trans (HG.out.mono HX.out.bw.size))) HX.out.bw.size HN1.out ⟨by decide, by decide⟩ ⟨by decide, by decide⟩).step (Nat.le_refl _) fun i hi _ => ⟨⟨hi.elim .inl fun h => .inr (by have := HX.out.re.lt; omega), fun e => by have := HX.out.own.lt i e; omega⟩, rfl⟩
          obtain ⟨i0, hi0, hz0, hz1, hz2⟩ := info_parts info_re9'
          go_wp2_with (at_builtin; refine wpList_append_row rfl _ _ 26 rfl (w.heap.size + 3) 28 i0 (.agg #[.int .i64 0, .int .u64 0, .int .u64 0, .int .u64 0, .int .u64 0, .int .i64 0, .int .i64 0, .int .i64 0, .slice none 0 0]) 9 88 Try.underlying26 hi0 hz0 hz1 hz2 rfl (by decide) _ k (L.flatMap Prod.snd) rfl ?c0 ⟨wr.heap.size + 1, 0, none⟩ 1 1 [.int .i64 5, .int .u64 0, .int .u64 0, .int .u64 0, .int .u64 0, .int .i64 1, .int .i64 (-1), .int .i64 0, .slice (some ⟨wr.heap.size, 0, none⟩) 1 1] rfl rfl ?c1 ?c2 ?c3 ?c4 ?c5 (by decide) ?_)
          case c0 =>
            have h := (HX.out.later HG.out).own.1
            rw [HL.out.1] at h
            exact h
          case c1 =>
            intro j u hj
            rw [Addr.add_lit, Nat.zero_add, HN.out.cell, hj]
          case c2 => intro u hu; simp at hu; rcases hu with rfl | rfl | rfl | rfl | rfl | rfl | rfl | rfl | rfl <;> rfl
          case c3 => unfold maxLen; omega
          case c4 => omega
          case c5 => have := (HX.out.later HG.out).re.lt; omega
          intro a2 c2 w3 hown hgrow hnw
          have hP := (HX.out.later HG.out).push (cs := [.int .i64 5, .int .u64 0, .int .u64 0, .int .u64 0, .int .u64 0, .int .i64 1, .int .i64 (-1), .int .i64 0, .slice (some ⟨wr.heap.size, 0, none⟩) 1 1]) (t := t.rept 1 ((-1))) (n' := k + 1) (by rw [HL.out.1]) hown hgrow (fun g hg => (hnw g hg).elim .inl fun h => .inr (by simpa using h)) HIN.out
          have q5 := hP.2.c9
          have z5 := hP.2.lt
          have HP := hid hP.1
          clear hown hgrow hnw hP hi0 hz0 hz1 hz2 q1 q3
          go_wp2_with fail
          go_roundw
          case rel => exact ⟨k + 1, a2, c2, L ++ [(t.rept 1 (-1), ([.int .i64 5, .int .u64 0, .int .u64 0, .int .u64 0, .int .u64 0, .int .i64 1, .int .i64 (-1), .int .i64 0, .slice (some ⟨wr.heap.size, 0, none⟩) 1 1] : List Value))], by omega, by go_num, ⟨by simp [HL.out.1], by have hkn := HKN.out; rw [List.map_append, HL.out.2, if_neg (by omega), if_pos (by omega), hkn]; rfl⟩, HP.out⟩
          case measure => simp [intOf]; omega
        · have dk : (((k : Nat) : Int) == ((n : Nat) : Int) - 1) = false := by simp; omega
          have HG : Hid (Below wr.heap.size wr (wr.alloc (.cells #[.int .i64 p.op, .int .u64 p.set.a, .int .u64 p.set.b, .int .u64 p.set.c, .int .u64 p.set.d, .int .i64 p.lo, .int .i64 p.hi, .int .i64 p.gr, .slice ad m cap] 28))) := (Below.refl _ wr).alloc (Nat.le_refl _) _
          have HN : Hid (Row (wr.alloc (.cells #[.int .i64 p.op, .int .u64 p.set.a, .int .u64 p.set.b, .int .u64 p.set.c, .int .u64 p.set.d, .int .i64 p.lo, .int .i64 p.hi, .int .i64 p.gr, .slice ad m cap] 28)) wr.heap.size [.int .i64 p.op, .int .u64 p.set.a, .int .u64 p.set.b, .int .u64 p.set.c, .int .u64 p.set.d, .int .i64 p.lo, .int .i64 p.hi, .int .i64 p.gr, .slice ad m cap] 28) := Row.new (cs := [.int .i64 p.op, .int .u64 p.set.a, .int .u64 p.set.b, .int .u64 p.set.c, .int .u64 p.set.d, .int .i64 p.lo, .int .i64 p.hi, .int .i64 p.gr, .slice ad m cap]) rfl
          have HIN : Hid (t.InS (fun i => Sb S w (w.heap.size + 3) i ∧ (Value.slice a k c).ownBlock ≠ some i) (wr.alloc (.cells #[.int .i64 p.op, .int .u64 p.set.a, .int .u64 p.set.b, .int .u64 p.set.c, .int .u64 p.set.d, .int .i64 p.lo, .int .i64 p.hi, .int .i64 p.gr, .slice ad m cap] 28)) [.int .i64 p.op, .int .u64 p.set.a, .int .u64 p.set.b, .int .u64 p.set.c, .int .u64 p.set.d, .int .i64 p.lo, .int .i64 p.hi, .int .i64 p.gr, .slice ad m cap]) := ((HT.out.below (HX.out.bw.trans (HG.out.mono HX.out.bw.size))).step (Nat.le_refl _) fun i hi _ => ⟨⟨.inl hi, fun e => by have := (HX.out.own.lt i e).1; omega⟩, rfl⟩)
          obtain ⟨i0, hi0, hz0, hz1, hz2⟩ := info_parts info_re9'
          go_wp2_with (at_builtin; refine wpList_append_row rfl _ _ 26 rfl (w.heap.size + 3) 28 i0 (.agg #[.int .i64 0, .int .u64 0, .int .u64 0, .int .u64 0, .int .u64 0, .int .i64 0, .int .i64 0, .int .i64 0, .slice none 0 0]) 9 88 Try.underlying26 hi0 hz0 hz1 hz2 rfl (by decide) _ k (L.flatMap Prod.snd) rfl ?c0 ⟨wr.heap.size, 0, none⟩ 1 1 [.int .i64 p.op, .int .u64 p.set.a, .int .u64 p.set.b, .int .u64 p.set.c, .int .u64 p.set.d, .int .i64 p.lo, .int .i64 p.hi, .int .i64 p.gr, .slice ad m cap] rfl rfl ?c1 ?c2 ?c3 ?c4 ?c5 (by decide) ?_)
          case c0 =>
            have h := (HX.out.later HG.out).own.1
            rw [HL.out.1] at h
            exact h
          case c1 =>
            intro j u hj
            rw [Addr.add_lit, Nat.zero_add, HN.out.cell, hj]
          case c2 => intro u hu; simp at hu; rcases hu with rfl | rfl | rfl | rfl | rfl | rfl | rfl | rfl | rfl <;> rfl
          case c3 => unfold maxLen; omega
          case c4 => omega
          case c5 => have := (HX.out.later HG.out).re.lt; omega
          intro a2 c2 w3 hown hgrow hnw
          have hP := (HX.out.later HG.out).push (cs := [.int .i64 p.op, .int .u64 p.set.a, .int .u64 p.set.b, .int .u64 p.set.c, .int .u64 p.set.d, .int .i64 p.lo, .int .i64 p.hi, .int .i64 p.gr, .slice ad m cap]) (t := t) (n' := k + 1) (by rw [HL.out.1]) hown hgrow (fun g hg => (hnw g hg).elim .inl fun h => .inr (by simpa using h)) HIN.out
          have q5 := hP.2.c9
          have z5 := hP.2.lt
          have HP := hid hP.1
          clear hown hgrow hnw hP hi0 hz0 hz1 hz2 q1 q3
          go_wp2_with fail
          go_roundw
          case rel => exact ⟨k + 1, a2, c2, L ++ [(t, ([.int .i64 p.op, .int .u64 p.set.a, .int .u64 p.set.b, .int .u64 p.set.c, .int .u64 p.set.d, .int .i64 p.lo, .int .i64 p.hi, .int .i64 p.gr, .slice ad m cap] : List Value))], by omega, by go_num, ⟨by simp [HL.out.1], by rw [List.map_append, HL.out.2, if_neg (by omega), if_neg (by omega), List.replicate_succ']; rfl⟩, HP.out⟩
          case measure => simp [intOf]; omega
      · obtain rfl : k = n := by omega
        have hL : L.map Prod.fst = List.replicate (k - 1) t ++ [t.rept 1 (-1)] := by rw [HL.out.2, if_pos rfl]
        go_wp2_with fail
        go_loopw [9] (fun i wx => i = .int .i64 k ∧ Hid (RAt S w [.int .i64 p.op, .int .u64 p.set.a, .int .u64 p.set.b, .int .u64 p.set.c, .int .u64 p.set.d, .int .i64 p.lo, .int .i64 p.hi, .int .i64 p.gr, .slice ad m cap] (.slice a k c) L wx)) (fun i _ => 0)
        case atStart => exact ⟨rfl, HX.out⟩
        case round =>
          obtain ⟨rfl, HX⟩ := hrel
          have q1 := HX.out.ra.c9
          have q3 := HX.out.re.c9
          have z1 := HX.out.ra.lt
          have z3 := HX.out.re.lt
          have q2 := HX.out.rz.c9
          have z2 := HX.out.rz.lt
          go_wp2_with fail
          have hT := HX.out.own.node (fun i hi => .inr hi) (Pay.of 3) (Pay.of_wf ⟨by decide, by decide⟩)
          rw [hL] at hT
          have hT2 : (Re.mk (Pay.of 3) (List.replicate (k - 1) t ++ [t.rept 1 (-1)])).InS (Sb S w (w.heap.size + 2)) wr [.int .i64 3, .int .u64 0, .int .u64 0, .int .u64 0, .int .u64 0, .int .i64 0, .int .i64 0, .int .i64 0, .slice a (k) c] := hT.mono fun i hi => hi.elim .inl fun h => .inr (by omega)
          obtain ⟨cs', k1, k2, k3, k4⟩ := counted_end HX.out.bw HX.out.rz hT2
          refine ret_row 6 28 rfl (w.heap.size + 1) rfl cs' (CellsAt.of_row (T := 28) k1) _ Try.underlying28 rfl (size_relen k2) rfl ?_
          refine ⟨cs', rfl, ?_, k4⟩
          rw [e1.out]
          exact k3
  · have h7 : ((n : Nat) : Int) ≤ hi := by omega
    have h8 : hi ≤ 64 := by omega
    obtain ⟨m2, hm2⟩ : ∃ m : Nat, hi = n + m := ⟨(hi - n).toNat, by omega⟩
    have e1 := hid (show t.counted n hi = .mk (Pay.of 3) (List.replicate n t ++ List.replicate m2 (t.rept 0 1)) by
      by_cases c4 : hi = n
      · have : m2 = 0 := by omega
        subst this
        unfold Re.counted; rw [if_neg c1, if_neg c2, if_neg c3, if_pos c4]; simp
      · unfold Re.counted; rw [if_neg c1, if_neg c2, if_neg c3, if_neg c4, if_neg c5, show (hi - (n : Int)).toNat = m2 by omega]; simp)
    have d2 : (hi == -1) = false := by simpa using c5
    have d3 : (((n : Nat) : Int) == 1) = true ∨ (((n : Nat) : Int) == 1) = false := by cases (((n : Nat) : Int) == 1) <;> simp
    have hnn : n ≤ 64 := by omega
    have hmm : m2 ≤ 64 := by omega
    have d4 : (((n : Nat) : Int) == 1) = true → (hi == 1) = false := fun h => by simp at h; simp; exact fun h2 => c3 ⟨by omega, h2⟩
    clear hhi c1 c2 c3 c5 hns
    subst hm2
    rcases d3 with d3 | d3
    · have d5 := d4 d3
      clear d4
      go_enter Try.func95, Try.ntmps95
      go_wp2_with fail
      go_loopw [8] (fun i wr => ∃ (k : Nat) (a : Option Addr) (c : Nat) (L : List (Re × List Value)), k ≤ n ∧ i = .int .i64 k ∧ Hid (L.length = k ∧ L.map Prod.fst = (List.replicate k t)) ∧ Hid (RAt S w [.int .i64 p.op, .int .u64 p.set.a, .int .u64 p.set.b, .int .u64 p.set.c, .int .u64 p.set.d, .int .i64 p.lo, .int .i64 p.hi, .int .i64 p.gr, .slice ad m cap] (.slice a k c) L wr)) (fun i _ => n - (intOf i).toNat)
      case atStart =>
        exact ⟨0, none, 0, [], by omega, rfl, ⟨rfl, rfl⟩, OwnRes.nil _ _ _, ((Row.new (cs := [.int .i64 p.op, .int .u64 p.set.a, .int .u64 p.set.b, .int .u64 p.set.c, .int .u64 p.set.d, .int .i64 p.lo, .int .i64 p.hi, .int .i64 p.gr, .slice ad m cap]) rfl).alloc _).alloc _, (Row.new (cs := [.int .i64 0, .int .u64 0, .int .u64 0, .int .u64 0, .int .u64 0, .int .i64 0, .int .i64 0, .int .i64 0, .slice none 0 0]) (by simp)).alloc _, Row.new (cs := [.int .i64 3, .int .u64 0, .int .u64 0, .int .u64 0, .int .u64 0, .int .i64 0, .int .i64 0, .int .i64 0, .slice none 0 0]) (by simp), (((Below.refl _ w).alloc (Nat.le_refl _) _).alloc (by simp) _).alloc (by simp; omega) _⟩
      case round =>
        obtain ⟨k, a, c, L, hk, rfl, HL, HX⟩ := hrel
        have q1 := HX.out.ra.c9
        have q3 := HX.out.re.c9
        have z1 := HX.out.ra.lt
        have z3 := HX.out.re.lt
        by_cases hlt : k < n
        · skip
          have HG : Hid (Below wr.heap.size wr (wr.alloc (.cells #[.int .i64 p.op, .int .u64 p.set.a, .int .u64 p.set.b, .int .u64 p.set.c, .int .u64 p.set.d, .int .i64 p.lo, .int .i64 p.hi, .int .i64 p.gr, .slice ad m cap] 28))) := (Below.refl _ wr).alloc (Nat.le_refl _) _
          have HN : Hid (Row (wr.alloc (.cells #[.int .i64 p.op, .int .u64 p.set.a, .int .u64 p.set.b, .int .u64 p.set.c, .int .u64 p.set.d, .int .i64 p.lo, .int .i64 p.hi, .int .i64 p.gr, .slice ad m cap] 28)) wr.heap.size [.int .i64 p.op, .int .u64 p.set.a, .int .u64 p.set.b, .int .u64 p.set.c, .int .u64 p.set.d, .int .i64 p.lo, .int .i64 p.hi, .int .i64 p.gr, .slice ad m cap] 28) := Row.new (cs := [.int .i64 p.op, .int .u64 p.set.a, .int .u64 p.set.b, .int .u64 p.set.c, .int .u64 p.set.d, .int .i64 p.lo, .int .i64 p.hi, .int .i64 p.gr, .slice ad m cap]) rfl
          have HIN : Hid (t.InS (fun i => Sb S w (w.heap.size + 3) i ∧ (Value.slice a k c).ownBlock ≠ some i) (wr.alloc (.cells #[.int .i64 p.op, .int .u64 p.set.a, .int .u64 p.set.b, .int .u64 p.set.c, .int .u64 p.set.d, .int .i64 p.lo, .int .i64 p.hi, .int .i64 p.gr, .slice ad m cap] 28)) [.int .i64 p.op, .int .u64 p.set.a, .int .u64 p.set.b, .int .u64 p.set.c, .int .u64 p.set.d, .int .i64 p.lo, .int .i64 p.hi, .int .i64 p.gr, .slice ad m cap]) := ((HT.out.below (HX.out.bw.trans (HG.out.mono HX.out.bw.size))).step (Nat.le_refl _) fun i hi _ => ⟨⟨.inl hi, fun e => by have := (HX.out.own.lt i e).1; omega⟩, rfl⟩)
          obtain ⟨i0, hi0, hz0, hz1, hz2⟩ := info_parts info_re9'
          go_wp2_with (at_builtin; refine wpList_append_row rfl _ _ 26 rfl (w.heap.size + 3) 28 i0 (.agg #[.int .i64 0, .int .u64 0, .int .u64 0, .int .u64 0, .int .u64 0, .int .i64 0, .int .i64 0, .int .i64 0, .slice none 0 0]) 9 88 Try.underlying26 hi0 hz0 hz1 hz2 rfl (by decide) _ k (L.flatMap Prod.snd) rfl ?c0 ⟨wr.heap.size, 0, none⟩ 1 1 [.int .i64 p.op, .int .u64 p.set.a, .int .u64 p.set.b, .int .u64 p.set.c, .int .u64 p.set.d, .int .i64 p.lo, .int .i64 p.hi, .int .i64 p.gr, .slice ad m cap] rfl rfl ?c1 ?c2 ?c3 ?c4 ?c5 (by decide) ?_)
          case c0 =>
            have h := (HX.out.later HG.out).own.1
            rw [HL.out.1] at h
            exact h
          case c1 =>
            intro j u hj
            rw [Addr.add_lit, Nat.zero_add, HN.out.cell, hj]
          case c2 => intro u hu; simp at hu; rcases hu with rfl | rfl | rfl | rfl | rfl | rfl | rfl | rfl | rfl <;> rfl
          case c3 => unfold maxLen; omega
          case c4 => omega
          case c5 => have := (HX.out.later HG.out).re.lt; omega
          intro a2 c2 w3 hown hgrow hnw
          have hP := (HX.out.later HG.out).push (cs := [.int .i64 p.op, .int .u64 p.set.a, .int .u64 p.set.b, .int .u64 p.set.c, .int .u64 p.set.d, .int .i64 p.lo, .int .i64 p.hi, .int .i64 p.gr, .slice ad m cap]) (t := t) (n' := k + 1) (by rw [HL.out.1]) hown hgrow (fun g hg => (hnw g hg).elim .inl fun h => .inr (by simpa using h)) HIN.out
          have q5 := hP.2.c9
          have z5 := hP.2.lt
          have HP := hid hP.1
          clear hown hgrow hnw hP hi0 hz0 hz1 hz2 q1 q3
          go_wp2_with fail
          go_roundw
          case rel => exact ⟨k + 1, a2, c2, L ++ [(t, ([.int .i64 p.op, .int .u64 p.set.a, .int .u64 p.set.b, .int .u64 p.set.c, .int .u64 p.set.d, .int .i64 p.lo, .int .i64 p.hi, .int .i64 p.gr, .slice ad m cap] : List Value))], by omega, by go_num, ⟨by simp [HL.out.1], by rw [List.map_append, HL.out.2, List.replicate_succ']; rfl⟩, HP.out⟩
          case measure => simp [intOf]; omega
        · obtain rfl : k = n := by omega
          go_wp2_with fail
          go_loopw [9] (fun i wx => ∃ (j : Nat) (a' : Option Addr) (c' : Nat) (L' : List (Re × List Value)) (v : Int), j ≤ m2 ∧ v = ((k + j : Nat) : Int) ∧ i = .int .i64 v ∧ Hid (L'.length = k + j ∧ L'.map Prod.fst = List.replicate k t ++ List.replicate j (t.rept 0 1)) ∧ Hid (RAt S w [.int .i64 p.op, .int .u64 p.set.a, .int .u64 p.set.b, .int .u64 p.set.c, .int .u64 p.set.d, .int .i64 p.lo, .int .i64 p.hi, .int .i64 p.gr, .slice ad m cap] (.slice a' (k + j) c') L' wx)) (fun i _ => m2 + k - (intOf i).toNat)
          case atStart => exact ⟨0, a, c, L, _, by omega, rfl, rfl, ⟨HL.out.1, by rw [HL.out.2]; simp⟩, HX.out⟩
          case round =>
            obtain ⟨j, a, c, L, v, hj, rfl, rfl, HL, HX⟩ := hrel
            have q1 := HX.out.ra.c9
            have q3 := HX.out.re.c9
            have z1 := HX.out.ra.lt
            have z3 := HX.out.re.lt
            by_cases hlt2 : j < m2
            · skip
              have HG : Hid (Below wr.heap.size wr ((wr.alloc (.cells #[.int .i64 p.op, .int .u64 p.set.a, .int .u64 p.set.b, .int .u64 p.set.c, .int .u64 p.set.d, .int .i64 p.lo, .int .i64 p.hi, .int .i64 p.gr, .slice ad m cap] 28)).alloc (.cells #[.int .i64 5, .int .u64 0, .int .u64 0, .int .u64 0, .int .u64 0, .int .i64 0, .int .i64 1, .int .i64 0, .slice (some ⟨wr.heap.size, 0, none⟩) 1 1] 28))) := ((Below.refl _ wr).alloc (Nat.le_refl _) _).alloc (by simp) _
              have HN1 : Hid (Row ((wr.alloc (.cells #[.int .i64 p.op, .int .u64 p.set.a, .int .u64 p.set.b, .int .u64 p.set.c, .int .u64 p.set.d, .int .i64 p.lo, .int .i64 p.hi, .int .i64 p.gr, .slice ad m cap] 28)).alloc (.cells #[.int .i64 5, .int .u64 0, .int .u64 0, .int .u64 0, .int .u64 0, .int .i64 0, .int .i64 1, .int .i64 0, .slice (some ⟨wr.heap.size, 0, none⟩) 1 1] 28)) wr.heap.size [.int .i64 p.op, .int .u64 p.set.a, .int .u64 p.set.b, .int .u64 p.set.c, .int .u64 p.set.d, .int .i64 p.lo, .int .i64 p.hi, .int .i64 p.gr, .slice ad m cap] 28) := (Row.new (cs := [.int .i64 p.op, .int .u64 p.set.a, .int .u64 p.set.b, .int .u64 p.set.c, .int .u64 p.set.d, .int .i64 p.lo, .int .i64 p.hi, .int .i64 p.gr, .slice ad m cap]) rfl).alloc _
              have HN : Hid (Row ((wr.alloc (.cells #[.int .i64 p.op, .int .u64 p.set.a, .int .u64 p.set.b, .int .u64 p.set.c, .int .u64 p.set.d, .int .i64 p.lo, .int .i64 p.hi, .int .i64 p.gr, .slice ad m cap] 28)).alloc (.cells #[.int .i64 5, .int .u64 0, .int .u64 0, .int .u64 0, .int .u64 0, .int .i64 0, .int .i64 1, .int .i64 0, .slice (some ⟨wr.heap.size, 0, none⟩) 1 1] 28)) (wr.heap.size + 1) [.int .i64 5, .int .u64 0, .int .u64 0, .int .u64 0, .int .u64 0, .int .i64 0, .int .i64 1, .int .i64 0, .slice (some ⟨wr.heap.size, 0, none⟩) 1 1] 28) := Row.new (cs := [.int .i64 5, .int .u64 0, .int .u64 0, .int .u64 0, .int .u64 0, .int .i64 0, .int .i64 1, .int .i64 0, .slice (some ⟨wr.heap.size, 0, none⟩) 1 1]) (by simp)
              have HIN : Hid ((t.rept 0 (1)).InS (fun i => Sb S w (w.heap.size + 3) i ∧ (Value.slice a (k + j) c).ownBlock ≠ some i) ((wr.alloc (.cells #[.int .i64 p.op, .int .u64 p.set.a, .int .u64 p.set.b, .int .u64 p.set.c, .int .u64 p.set.d, .int .i64 p.lo, .int .i64 p.hi, .int .i64 p.gr, .slice ad m cap] 28)).alloc (.cells #[.int .i64 5, .int .u64 0, .int .u64 0, .int .u64 0, .int .u64 0, .int .i64 0, .int .i64 1, .int .i64 0, .slice (some ⟨wr.heap.size, 0, none⟩) 1 1] 28)) [.int .i64 5, .int .u64 0, .int .u64 0, .int .u64 0, .int .u64 0, .int .i64 0, .int .i64 1, .int .i64 0, .slice (some ⟨wr.heap.size, 0, none⟩) 1 1]) := (rept_in 0 (1) (HT.out.below (HX.out.bw.trans (HG.out.mono HX.out.bw.size))) HX.out.bw.size HN1.out ⟨by decide, by decide⟩ ⟨by decide, by decide⟩).step (Nat.le_refl _) fun i hi _ => ⟨⟨hi.elim .inl fun h => .inr (by have := HX.out.re.lt; omega), fun e => by have := HX.out.own.lt i e; omega⟩, rfl⟩
              obtain ⟨i0, hi0, hz0, hz1, hz2⟩ := info_parts info_re9'
              go_wp2_with (at_builtin; refine wpList_append_row rfl _ _ 26 rfl (w.heap.size + 3) 28 i0 (.agg #[.int .i64 0, .int .u64 0, .int .u64 0, .int .u64 0, .int .u64 0, .int .i64 0, .int .i64 0, .int .i64 0, .slice none 0 0]) 9 88 Try.underlying26 hi0 hz0 hz1 hz2 rfl (by decide) _ (k + j) (L.flatMap Prod.snd) rfl ?c0 ⟨wr.heap.size + 1, 0, none⟩ 1 1 [.int .i64 5, .int .u64 0, .int .u64 0, .int .u64 0, .int .u64 0, .int .i64 0, .int .i64 1, .int .i64 0, .slice (some ⟨wr.heap.size, 0, none⟩) 1 1] rfl rfl ?c1 ?c2 ?c3 ?c4 ?c5 (by decide) ?_)
              case c0 =>
                have h := (HX.out.later HG.out).own.1
                rw [HL.out.1] at h
                exact h
              case c1 =>
                intro j u hj
                rw [Addr.add_lit, Nat.zero_add, HN.out.cell, hj]
              case c2 => intro u hu; simp at hu; rcases hu with rfl | rfl | rfl | rfl | rfl | rfl | rfl | rfl | rfl <;> rfl
              case c3 => unfold maxLen; omega
              case c4 => omega
              case c5 => have := (HX.out.later HG.out).re.lt; omega
              intro a2 c2 w3 hown hgrow hnw
              have hP := (HX.out.later HG.out).push (cs := [.int .i64 5, .int .u64 0, .int .u64 0, .int .u64 0, .int .u64 0, .int .i64 0, .int .i64 1, .int .i64 0, .slice (some ⟨wr.heap.size, 0, none⟩) 1 1]) (t := t.rept 0 (1)) (n' := (k + j) + 1) (by rw [HL.out.1]) hown hgrow (fun g hg => (hnw g hg).elim .inl fun h => .inr (by simpa using h)) HIN.out
              have q5 := hP.2.c9
              have z5 := hP.2.lt
              have HP := hid hP.1
              clear hown hgrow hnw hP hi0 hz0 hz1 hz2 q1 q3
              go_wp2_with fail
              go_roundw
              case rel => exact ⟨j + 1, a2, c2, L ++ [(t.rept 0 1, ([.int .i64 5, .int .u64 0, .int .u64 0, .int .u64 0, .int .u64 0, .int .i64 0, .int .i64 1, .int .i64 0, .slice (some ⟨wr.heap.size, 0, none⟩) 1 1] : List Value))], ((k + (j + 1) : Nat) : Int), by omega, rfl, by go_num, ⟨by simp [HL.out.1]; omega, by rw [List.map_append, HL.out.2, List.replicate_succ' (n := j), ← List.append_assoc]; rfl⟩, HP.out⟩
              case measure => simp [intOf]; omega
            · obtain rfl : j = m2 := by omega
              have q2 := HX.out.rz.c9
              have z2 := HX.out.rz.lt
              go_wp2_with fail
              have hT := HX.out.own.node (fun i hi => .inr hi) (Pay.of 3) (Pay.of_wf ⟨by decide, by decide⟩)
              rw [HL.out.2] at hT
              have hT2 : (Re.mk (Pay.of 3) (List.replicate k t ++ List.replicate j (t.rept 0 1))).InS (Sb S w (w.heap.size + 2)) wr [.int .i64 3, .int .u64 0, .int .u64 0, .int .u64 0, .int .u64 0, .int .i64 0, .int .i64 0, .int .i64 0, .slice a (k + j) c] := hT.mono fun i hi => hi.elim .inl fun h => .inr (by omega)
              obtain ⟨cs', k1, k2, k3, k4⟩ := counted_end HX.out.bw HX.out.rz hT2
              refine ret_row 6 28 rfl (w.heap.size + 1) rfl cs' (CellsAt.of_row (T := 28) k1) _ Try.underlying28 rfl (size_relen k2) rfl ?_
              refine ⟨cs', rfl, ?_, k4⟩
              rw [e1.out]
              exact k3
    · clear d4
      go_enter Try.func95, Try.ntmps95
      go_wp2_with fail
      go_loopw [8] (fun i wr => ∃ (k : Nat) (a : Option Addr) (c : Nat) (L : List (Re × List Value)), k ≤ n ∧ i = .int .i64 k ∧ Hid (L.length = k ∧ L.map Prod.fst = (List.replicate k t)) ∧ Hid (RAt S w [.int .i64 p.op, .int .u64 p.set.a, .int .u64 p.set.b, .int .u64 p.set.c, .int .u64 p.set.d, .int .i64 p.lo, .int .i64 p.hi, .int .i64 p.gr, .slice ad m cap] (.slice a k c) L wr)) (fun i _ => n - (intOf i).toNat)
      case atStart =>
        exact ⟨0, none, 0, [], by omega, rfl, ⟨rfl, rfl⟩, OwnRes.nil _ _ _, ((Row.new (cs := [.int .i64 p.op, .int .u64 p.set.a, .int .u64 p.set.b, .int .u64 p.set.c, .int .u64 p.set.d, .int .i64 p.lo, .int .i64 p.hi, .int .i64 p.gr, .slice ad m cap]) rfl).alloc _).alloc _, (Row.new (cs := [.int .i64 0, .int .u64 0, .int .u64 0, .int .u64 0, .int .u64 0, .int .i64 0, .int .i64 0, .int .i64 0, .slice none 0 0]) (by simp)).alloc _, Row.new (cs := [.int .i64 3, .int .u64 0, .int .u64 0, .int .u64 0, .int .u64 0, .int .i64 0, .int .i64 0, .int .i64 0, .slice none 0 0]) (by simp), (((Below.refl _ w).alloc (Nat.le_refl _) _).alloc (by simp) _).alloc (by simp; omega) _⟩
      case round =>
        obtain ⟨k, a, c, L, hk, rfl, HL, HX⟩ := hrel
        have q1 := HX.out.ra.c9
        have q3 := HX.out.re.c9
        have z1 := HX.out.ra.lt
        have z3 := HX.out.re.lt
        by_cases hlt : k < n
        · skip
          have HG : Hid (Below wr.heap.size wr (wr.alloc (.cells #[.int .i64 p.op, .int .u64 p.set.a, .int .u64 p.set.b, .int .u64 p.set.c, .int .u64 p.set.d, .int .i64 p.lo, .int .i64 p.hi, .int .i64 p.gr, .slice ad m cap] 28))) := (Below.refl _ wr).alloc (Nat.le_refl _) _
          have HN : Hid (Row (wr.alloc (.cells #[.int .i64 p.op, .int .u64 p.set.a, .int .u64 p.set.b, .int .u64 p.set.c, .int .u64 p.set.d, .int .i64 p.lo, .int .i64 p.hi, .int .i64 p.gr, .slice ad m cap] 28)) wr.heap.size [.int .i64 p.op, .int .u64 p.set.a, .int .u64 p.set.b, .int .u64 p.set.c, .int .u64 p.set.d, .int .i64 p.lo, .int .i64 p.hi, .int .i64 p.gr, .slice ad m cap] 28) := Row.new (cs := [.int .i64 p.op, .int .u64 p.set.a, .int .u64 p.set.b, .int .u64 p.set.c, .int .u64 p.set.d, .int .i64 p.lo, .int .i64 p.hi, .int .i64 p.gr, .slice ad m cap]) rfl
          have HIN : Hid (t.InS (fun i => Sb S w (w.heap.size + 3) i ∧ (Value.slice a k c).ownBlock ≠ some i) (wr.alloc (.cells #[.int .i64 p.op, .int .u64 p.set.a, .int .u64 p.set.b, .int .u64 p.set.c, .int .u64 p.set.d, .int .i64 p.lo, .int .i64 p.hi, .int .i64 p.gr, .slice ad m cap] 28)) [.int .i64 p.op, .int .u64 p.set.a, .int .u64 p.set.b, .int .u64 p.set.c, .int .u64 p.set.d, .int .i64 p.lo, .int .i64 p.hi, .int .i64 p.gr, .slice ad m cap]) := ((HT.out.below (HX.out.bw.trans (HG.out.mono HX.out.bw.size))).step (Nat.le_refl _) fun i hi _ => ⟨⟨.inl hi, fun e => by have := (HX.out.own.lt i e).1; omega⟩, rfl⟩)
          obtain ⟨i0, hi0, hz0, hz1, hz2⟩ := info_parts info_re9'
          go_wp2_with (at_builtin; refine wpList_append_row rfl _ _ 26 rfl (w.heap.size + 3) 28 i0 (.agg #[.int .i64 0, .int .u64 0, .int .u64 0, .int .u64 0, .int .u64 0, .int .i64 0, .int .i64 0, .int .i64 0, .slice none 0 0]) 9 88 Try.underlying26 hi0 hz0 hz1 hz2 rfl (by decide) _ k (L.flatMap Prod.snd) rfl ?c0 ⟨wr.heap.size, 0, none⟩ 1 1 [.int .i64 p.op, .int .u64 p.set.a, .int .u64 p.set.b, .int .u64 p.set.c, .int .u64 p.set.d, .int .i64 p.lo, .int .i64 p.hi, .int .i64 p.gr, .slice ad m cap] rfl rfl ?c1 ?c2 ?c3 ?c4 ?c5 (by decide) ?_)
          case c0 =>
            have h := (HX.out.later HG.out).own.1
            rw [HL.out.1] at h
            exact h
          case c1 =>
            intro j u hj
            rw [Addr.add_lit, Nat.zero_add, HN.out.cell, hj]
          case c2 => intro u hu; simp at hu; rcases hu with rfl | rfl | rfl | rfl | rfl | rfl | rfl | rfl | rfl <;> rfl
          case c3 => unfold maxLen; omega
          case c4 => omega
          case c5 => have := (HX.out.later HG.out).re.lt; omega
          intro a2 c2 w3 hown hgrow hnw
          have hP := (HX.out.later HG.out).push (cs := [.int .i64 p.op, .int .u64 p.set.a, .int .u64 p.set.b, .int .u64 p.set.c, .int .u64 p.set.d, .int .i64 p.lo, .int .i64 p.hi, .int .i64 p.gr, .slice ad m cap]) (t := t) (n' := k + 1) (by rw [HL.out.1]) hown hgrow (fun g hg => (hnw g hg).elim .inl fun h => .inr (by simpa using h)) HIN.out
          have q5 := hP.2.c9
          have z5 := hP.2.lt
          have HP := hid hP.1
          clear hown hgrow hnw hP hi0 hz0 hz1 hz2 q1 q3
          go_wp2_with fail
          go_roundw
          case rel => exact ⟨k + 1, a2, c2, L ++ [(t, ([.int .i64 p.op, .int .u64 p.set.a, .int .u64 p.set.b, .int .u64 p.set.c, .int .u64 p.set.d, .int .i64 p.lo, .int .i64 p.hi, .int .i64 p.gr, .slice ad m cap] : List Value))], by omega, by go_num, ⟨by simp [HL.out.1], by rw [List.map_append, HL.out.2, List.replicate_succ']; rfl⟩, HP.out⟩
          case measure => simp [intOf]; omega
        · obtain rfl : k = n := by omega
          go_wp2_with fail
          go_loopw [9] (fun i wx => ∃ (j : Nat) (a' : Option Addr) (c' : Nat) (L' : List (Re × List Value)) (v : Int), j ≤ m2 ∧ v = ((k + j : Nat) : Int) ∧ i = .int .i64 v ∧ Hid (L'.length = k + j ∧ L'.map Prod.fst = List.replicate k t ++ List.replicate j (t.rept 0 1)) ∧ Hid (RAt S w [.int .i64 p.op, .int .u64 p.set.a, .int .u64 p.set.b, .int .u64 p.set.c, .int .u64 p.set.d, .int .i64 p.lo, .int .i64 p.hi, .int .i64 p.gr, .slice ad m cap] (.slice a' (k + j) c') L' wx)) (fun i _ => m2 + k - (intOf i).toNat)
          case atStart => exact ⟨0, a, c, L, _, by omega, rfl, rfl, ⟨HL.out.1, by rw [HL.out.2]; simp⟩, HX.out⟩
          case round =>
            obtain ⟨j, a, c, L, v, hj, rfl, rfl, HL, HX⟩ := hrel
            have q1 := HX.out.ra.c9
            have q3 := HX.out.re.c9
            have z1 := HX.out.ra.lt
            have z3 := HX.out.re.lt
            by_cases hlt2 : j < m2
            · skip
              have HG : Hid (Below wr.heap.size wr ((wr.alloc (.cells #[.int .i64 p.op, .int .u64 p.set.a, .int .u64 p.set.b, .int .u64 p.set.c, .int .u64 p.set.d, .int .i64 p.lo, .int .i64 p.hi, .int .i64 p.gr, .slice ad m cap] 28)).alloc (.cells #[.int .i64 5, .int .u64 0, .int .u64 0, .int .u64 0, .int .u64 0, .int .i64 0, .int .i64 1, .int .i64 0, .slice (some ⟨wr.heap.size, 0, none⟩) 1 1] 28))) := ((Below.refl _ wr).alloc (Nat.le_refl _) _).alloc (by simp) _
              have HN1 : Hid (Row ((wr.alloc (.cells #[.int .i64 p.op, .int .u64 p.set.a, .int .u64 p.set.b, .int .u64 p.set.c, .int .u64 p.set.d, .int .i64 p.lo, .int .i64 p.hi, .int .i64 p.gr, .slice ad m cap] 28)).alloc (.cells #[.int .i64 5, .int .u64 0, .int .u64 0, .int .u64 0, .int .u64 0, .int .i64 0, .int .i64 1, .int .i64 0, .slice (some ⟨wr.heap.size, 0, none⟩) 1 1] 28)) wr.heap.size [.int .i64 p.op, .int .u64 p.set.a, .int .u64 p.set.b, .int .u64 p.set.c, .int .u64 p.set.d, .int .i64 p.lo, .int .i64 p.hi, .int .i64 p.gr, .slice ad m cap] 28) := (Row.new (cs := [.int .i64 p.op, .int .u64 p.set.a, .int .u64 p.set.b, .int .u64 p.set.c, .int .u64 p.set.d, .int .i64 p.lo, .int .i64 p.hi, .int .i64 p.gr, .slice ad m cap]) rfl).alloc _
              have HN : Hid (Row ((wr.alloc (.cells #[.int .i64 p.op, .int .u64 p.set.a, .int .u64 p.set.b, .int .u64 p.set.c, .int .u64 p.set.d, .int .i64 p.lo, .int .i64 p.hi, .int .i64 p.gr, .slice ad m cap] 28)).alloc (.cells #[.int .i64 5, .int .u64 0, .int .u64 0, .int .u64 0, .int .u64 0, .int .i64 0, .int .i64 1, .int .i64 0, .slice (some ⟨wr.heap.size, 0, none⟩) 1 1] 28)) (wr.heap.size + 1) [.int .i64 5, .int .u64 0, .int .u64 0, .int .u64 0, .int .u64 0, .int .i64 0, .int .i64 1, .int .i64 0, .slice (some ⟨wr.heap.size, 0, none⟩) 1 1] 28) := Row.new (cs := [.int .i64 5, .int .u64 0, .int .u64 0, .int .u64 0, .int .u64 0, .int .i64 0, .int .i64 1, .int .i64 0, .slice (some ⟨wr.heap.size, 0, none⟩) 1 1]) (by simp)
              have HIN : Hid ((t.rept 0 (1)).InS (fun i => Sb S w (w.heap.size + 3) i ∧ (Value.slice a (k + j) c).ownBlock ≠ some i) ((wr.alloc (.cells #[.int .i64 p.op, .int .u64 p.set.a, .int .u64 p.set.b, .int .u64 p.set.c, .int .u64 p.set.d, .int .i64 p.lo, .int .i64 p.hi, .int .i64 p.gr, .slice ad m cap] 28)).alloc (.cells #[.int .i64 5, .int .u64 0, .int .u64 0, .int .u64 0, .int .u64 0, .int .i64 0, .int .i64 1, .int .i64 0, .slice (some ⟨wr.heap.size, 0, none⟩) 1 1] 28)) [.int .i64 5, .int .u64 0, .int .u64 0, .int .u64 0, .int .u64 0, .int .i64 0, .int .i64 1, .int .i64 0, .slice (some ⟨wr.heap.size, 0, none⟩) 1 1]) := (rept_in 0 (1) (HT.out.below (HX.out.bw.trans (HG.out.mono HX.out.bw.size))) HX.out.bw.size HN1.out ⟨by decide, by decide⟩ ⟨by decide, by decide⟩).step (Nat.le_refl _) fun i hi _ => ⟨⟨hi.elim .inl fun h => .inr (by have := HX.out.re.lt; omega), fun e => by have := HX.out.own.lt i e; omega⟩, rfl⟩
              obtain ⟨i0, hi0, hz0, hz1, hz2⟩ := info_parts info_re9'
              go_wp2_with (at_builtin; refine wpList_append_row rfl _ _ 26 rfl (w.heap.size + 3) 28 i0 (.agg #[.int .i64 0, .int .u64 0, .int .u64 0, .int .u64 0, .int .u64 0, .int .i64 0, .int .i64 0, .int .i64 0, .slice none 0 0]) 9 88 Try.underlying26 hi0 hz0 hz1 hz2 rfl (by decide) _ (k + j) (L.flatMap Prod.snd) rfl ?c0 ⟨wr.heap.size + 1, 0, none⟩ 1 1 [.int .i64 5, .int .u64 0, .int .u64 0, .int .u64 0, .int .u64 0, .int .i64 0, .int .i64 1, .int .i64 0, .slice (some ⟨wr.heap.size, 0, none⟩) 1 1] rfl rfl ?c1 ?c2 ?c3 ?c4 ?c5 (by decide) ?_)
              case c0 =>
                have h := (HX.out.later HG.out).own.1
                rw [HL.out.1] at h
                exact h
              case c1 =>
                intro j u hj
                rw [Addr.add_lit, Nat.zero_add, HN.out.cell, hj]
              case c2 => intro u hu; simp at hu; rcases hu with rfl | rfl | rfl | rfl | rfl | rfl | rfl | rfl | rfl <;> rfl
              case c3 => unfold maxLen; omega
              case c4 => omega
              case c5 => have := (HX.out.later HG.out).re.lt; omega
              intro a2 c2 w3 hown hgrow hnw
              have hP := (HX.out.later HG.out).push (cs := [.int .i64 5, .int .u64 0, .int .u64 0, .int .u64 0, .int .u64 0, .int .i64 0, .int .i64 1, .int .i64 0, .slice (some ⟨wr.heap.size, 0, none⟩) 1 1]) (t := t.rept 0 (1)) (n' := (k + j) + 1) (by rw [HL.out.1]) hown hgrow (fun g hg => (hnw g hg).elim .inl fun h => .inr (by simpa using h)) HIN.out
              have q5 := hP.2.c9
              have z5 := hP.2.lt
              have HP := hid hP.1
              clear hown hgrow hnw hP hi0 hz0 hz1 hz2 q1 q3
              go_wp2_with fail
              go_roundw
              case rel => exact ⟨j + 1, a2, c2, L ++ [(t.rept 0 1, ([.int .i64 5, .int .u64 0, .int .u64 0, .int .u64 0, .int .u64 0, .int .i64 0, .int .i64 1, .int .i64 0, .slice (some ⟨wr.heap.size, 0, none⟩) 1 1] : List Value))], ((k + (j + 1) : Nat) : Int), by omega, rfl, by go_num, ⟨by simp [HL.out.1]; omega, by rw [List.map_append, HL.out.2, List.replicate_succ' (n := j), ← List.append_assoc]; rfl⟩, HP.out⟩
              case measure => simp [intOf]; omega
            · obtain rfl : j = m2 := by omega
              have q2 := HX.out.rz.c9
              have z2 := HX.out.rz.lt
              go_wp2_with fail
              have hT := HX.out.own.node (fun i hi => .inr hi) (Pay.of 3) (Pay.of_wf ⟨by decide, by decide⟩)
              rw [HL.out.2] at hT
              have hT2 : (Re.mk (Pay.of 3) (List.replicate k t ++ List.replicate j (t.rept 0 1))).InS (Sb S w (w.heap.size + 2)) wr [.int .i64 3, .int .u64 0, .int .u64 0, .int .u64 0, .int .u64 0, .int .i64 0, .int .i64 0, .int .i64 0, .slice a (k + j) c] := hT.mono fun i hi => hi.elim .inl fun h => .inr (by omega)
              obtain ⟨cs', k1, k2, k3, k4⟩ := counted_end HX.out.bw HX.out.rz hT2
              refine ret_row 6 28 rfl (w.heap.size + 1) rfl cs' (CellsAt.of_row (T := 28) k1) _ Try.underlying28 rfl (size_relen k2) rfl ?_
              refine ⟨cs', rfl, ?_, k4⟩
              rw [e1.out]
              exact k3
end Go.Proofs.Ythnpbopnpdlmnaa
