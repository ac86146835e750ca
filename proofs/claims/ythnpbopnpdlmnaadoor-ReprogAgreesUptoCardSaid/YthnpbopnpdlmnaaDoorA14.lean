/- The program's clone: a tree that shares nothing with another one. -/
import Derived.Test.YthnpbopnpdlmnaaDoorA13
namespace Go.Proofs.YthnpbopnpdlmnaaDoor
open Go.RowKit
attribute [local go_sem] gives givesUpon


def BAt (w : World) (p : Pay) (sl : Value) (N : Nat) (v : Value) (L : List (Re × List Value)) (wr : World) : Prop :=
  OwnRes wr N (N ≤ ·) v L ∧ Row wr w.heap.size (p.cells sl) 28 ∧ Row wr (w.heap.size + 1) [.int .i64 0, .int .u64 0, .int .u64 0, .int .u64 0, .int .u64 0, .int .i64 0, .int .i64 0, .int .i64 0, .slice none 0 0] 28 ∧ Below w.heap.size w wr
theorem BAt.later {w : World} {p : Pay} {sl : Value} {N : Nat} {v : Value} {L : List (Re × List Value)} {wr x : World} (h : BAt w p sl N v L wr) (hb : Below wr.heap.size wr x) : BAt w p sl N v L x :=
  ⟨h.1.below hb, h.2.1.below hb h.2.1.lt, h.2.2.1.below hb h.2.2.1.lt, h.2.2.2.trans (hb.mono h.2.2.2.size)⟩
theorem BAt.push {w : World} {p : Pay} {sl : Value} {N : Nat} {a a' : Option Addr} {n n' c c' : Nat} {L : List (Re × List Value)} {t : Re} {cs : List Value} {x x' : World} (h : BAt w p sl N (.slice a n c) L x) (hN : w.heap.size + 2 ≤ N) (hn : n' = L.length + 1)
    (ho : x'.ownsRow N 28 9 (.slice a' n' c') n' (L.flatMap Prod.snd ++ cs)) (hg : x.grownBy x' (Value.slice a n c).ownBlock) (hnew : ∀ g, (Value.slice a' n' c').ownBlock = some g → (Value.slice a n c).ownBlock = some g ∨ x.heap.size ≤ g)
    (ht : t.InS (fun k => N ≤ k ∧ (Value.slice a n c).ownBlock ≠ some k) x cs) : BAt w p sl N (.slice a' n' c') (L ++ [(t, cs)]) x' := by
  have hv : ∀ g, (Value.slice a n c).ownBlock = some g → w.heap.size + 2 ≤ g := fun g hg => Nat.le_trans hN (h.1.lt g hg).1
  have hs := h.2.2.1.lt
  have hbl : ∀ j, j < w.heap.size + 2 → x'.heap[j]? = x.heap[j]? := fun j hj => grown_block hg hv j hj (by omega)
  exact ⟨h.1.push hn ho hg hnew ht, (hbl _ (by omega)).trans h.2.1, (hbl _ (by omega)).trans h.2.2.1, hg.os.trans h.2.2.2.os, hg.tape.trans h.2.2.2.tape, hg.output.trans h.2.2.2.output, Nat.le_trans h.2.2.2.size hg.size, fun j hj => (hbl j (by omega)).trans (h.2.2.2.block j hj)⟩

theorem info_re9' : (Tryd.prog.info? 28).map (fun i => (i.zero, i.size, i.bytes)) = some (some (.agg #[.int .i64 0, .int .u64 0, .int .u64 0, .int .u64 0, .int .u64 0, .int .i64 0, .int .i64 0, .int .i64 0, .slice none 0 0]), 9, 88) := info_re9

set_option maxRecDepth 100000 in
set_option maxHeartbeats 4000000 in
theorem clone_any (wb : World) (t : Re) : ∀ (w : World) (cs : List Value), t.In wb cs → Below wb.heap.size wb w → t.size ≤ 1048576 →
    Calls Tryd.prog 31 #[.agg cs.toArray] w fun e w' => ∃ cs', e = .returned (.agg cs'.toArray) ∧ t.InS (w.heap.size ≤ ·) w' cs' ∧ Below w.heap.size w w' := by
  induction t using Re.ind with
  | h p xs ih =>
    intro w cs hIn hbw hsz
    rw [Re.In] at hIn
    obtain ⟨ad, cap, rfl, hwf, hlc, hcm, hnil, hall⟩ := hIn
    rw [Re.size_mk] at hsz
    have hlen := Re.sizes_len xs
    have HIH := hid ih
    have HAL := hid hall
    have HBW := hid hbw
    have HWF := hid hwf
    clear ih hall hwf hbw
    simp only [Pay.cells]
    go_enter Tryd.func31, Tryd.ntmps31
    go_wp2_with fail
    go_loopw [3, 9] (fun v i wr => ∃ (k : Nat) (a : Option Addr) (c : Nat) (L : List (Re × List Value)), k ≤ xs.length ∧ v = .slice a k c ∧ i = .int .i64 k ∧ Hid (L.length = k ∧ L.map Prod.fst = xs.take k) ∧ Hid (BAt w p (.slice ad xs.length cap) (w.heap.size + 2) (.slice a k c) L wr)) (fun _ i _ => xs.length - (intOf i).toNat)
    case atStart =>
      exact ⟨0, none, 0, [], by omega, rfl, rfl, ⟨rfl, rfl⟩, OwnRes.nil _ _ _, (Row.new (cs := [.int .i64 p.op, .int .u64 p.set.a, .int .u64 p.set.b, .int .u64 p.set.c, .int .u64 p.set.d, .int .i64 p.lo, .int .i64 p.hi, .int .i64 p.gr, .slice ad xs.length cap]) rfl).alloc _, Row.new (cs := [.int .i64 0, .int .u64 0, .int .u64 0, .int .u64 0, .int .u64 0, .int .i64 0, .int .i64 0, .int .i64 0, .slice none 0 0]) (by simp), ((Below.refl _ w).alloc (Nat.le_refl _) _).alloc (by simp) _⟩
    case round =>
      obtain ⟨k, a, c, L, hk, rfl, rfl, HL, HX⟩ := hrel
      have q1 := HX.out.2.1.c9
      have hB := HX.out.2.1.lt
      have HBL : Hid (Below wb.heap.size wb wr) := HBW.out.trans (HX.out.2.2.2.mono HBW.out.size)
      by_cases hlt : k < xs.length
      · obtain ⟨b, o, p', ad1, n1, cap1, rfl, HC, HI0, hbb⟩ := HAL.out.kid HBL.out k hlt
        go_wp2_with (first | (with_reducible (refine wpList_load_agg rfl 28 _ rfl b (o + (k * 9)) rfl _ _ HC.out Tryd.underlying28 rfl (size_re9 _ _ _ _ _ _ _ _ _) ?_)))
        have hsg := Re.size_get (xs := xs) (i := k) (a := xs[k]) (by simp [hlt])
        refine (HIH.out xs[k] (by simp) _ _ HI0.out (HBL.out.alloc (by have := HBL.out.size; exact this) _) (by omega)).mono ?_
        rintro e w2 ⟨cs', rfl, hin, hb2⟩
        obtain ⟨q, ad', m', cap'', rfl⟩ := Re.cells_shape hin.self
        have hb3 := ((Below.refl _ wr).alloc (Nat.le_refl _) (.cells #[.int .i64 p'.op, .int .u64 p'.set.a, .int .u64 p'.set.b, .int .u64 p'.set.c, .int .u64 p'.set.d, .int .i64 p'.lo, .int .i64 p'.hi, .int .i64 p'.gr, .slice ad1 n1 cap1] 28)).trans (hb2.mono (by simp))
        have HX2 := hid ((HX.out.later hb3).later ((Below.refl _ w2).alloc (Nat.le_refl _) (.cells #[.int .i64 q.op, .int .u64 q.set.a, .int .u64 q.set.b, .int .u64 q.set.c, .int .u64 q.set.d, .int .i64 q.lo, .int .i64 q.hi, .int .i64 q.gr, .slice ad' m' cap''] 28)))
        have hin3 : xs[k].InS (fun i => w.heap.size + 2 ≤ i ∧ (Value.slice a k c).ownBlock ≠ some i) w2 [.int .i64 q.op, .int .u64 q.set.a, .int .u64 q.set.b, .int .u64 q.set.c, .int .u64 q.set.d, .int .i64 q.lo, .int .i64 q.hi, .int .i64 q.gr, .slice ad' m' cap''] := hin.step (Nat.le_refl _) (fun i hi hl => ⟨⟨by have := HX.out.2.2.1.lt; simp at hi; omega, fun e => by have := (HX.out.1.lt i e).2; simp at hi; omega⟩, rfl⟩)
        have HIN := hid (hin3.below ((Below.refl _ w2).alloc (Nat.le_refl _) (.cells #[.int .i64 q.op, .int .u64 q.set.a, .int .u64 q.set.b, .int .u64 q.set.c, .int .u64 q.set.d, .int .i64 q.lo, .int .i64 q.hi, .int .i64 q.gr, .slice ad' m' cap''] 28)))
        have hw2 : w.heap.size + 2 ≤ w2.heap.size := by have h1 := HX2.out.2.2.1.lt; have h2 := hb3.size; have := HX.out.2.2.1.lt; omega
        obtain ⟨i0, hi, hz0, hz1, hz2⟩ := info_parts info_re9'
        clear hb2 hb3 hin hin3 q1
        go_wp2_with (at_builtin; refine wpList_append_row rfl _ _ 26 rfl (w.heap.size + 2) 28 i0 (.agg #[.int .i64 0, .int .u64 0, .int .u64 0, .int .u64 0, .int .u64 0, .int .i64 0, .int .i64 0, .int .i64 0, .slice none 0 0]) 9 88 Tryd.underlying26 hi hz0 hz1 hz2 rfl (by decide) _ k (L.flatMap Prod.snd) rfl (by have := HX2.out.1.1; rw [HL.out.1] at this; exact this) ⟨w2.heap.size, 0, none⟩ 1 1 [.int .i64 q.op, .int .u64 q.set.a, .int .u64 q.set.b, .int .u64 q.set.c, .int .u64 q.set.d, .int .i64 q.lo, .int .i64 q.hi, .int .i64 q.gr, .slice ad' m' cap''] rfl rfl ?c1 ?c2 ?c3 ?c4 ?c5 (by decide) ?_)
        case c1 =>
          intro j u hj
          rw [Addr.add_lit, Nat.zero_add]
          exact (Row.new (w := w2) (cs := [.int .i64 q.op, .int .u64 q.set.a, .int .u64 q.set.b, .int .u64 q.set.c, .int .u64 q.set.d, .int .i64 q.lo, .int .i64 q.hi, .int .i64 q.gr, .slice ad' m' cap'']) (T := 28) rfl).cell j ▸ hj
        case c2 => intro u hu; simp at hu; rcases hu with rfl | rfl | rfl | rfl | rfl | rfl | rfl | rfl | rfl <;> rfl
        case c3 => unfold maxLen; omega
        case c4 => omega
        case c5 => simp; omega
        intro a2 c2 w3 hown hgrow hnw
        have HX3 : Hid (BAt w p (.slice (some ⟨b, o, none⟩) xs.length cap) (w.heap.size + 2) (.slice a2 (k + 1) c2) (L ++ [(xs[k], ([.int .i64 q.op, .int .u64 q.set.a, .int .u64 q.set.b, .int .u64 q.set.c, .int .u64 q.set.d, .int .i64 q.lo, .int .i64 q.hi, .int .i64 q.gr, .slice ad' m' cap''] : List Value))]) w3) := HX2.out.push (Nat.le_refl _) (by rw [HL.out.1]) hown hgrow (fun g hg => (hnw g hg).elim .inl fun h => .inr (by simpa using h)) HIN.out
        clear hown hgrow hnw
        go_wp2_with fail
        go_roundw
        case rel => exact ⟨k + 1, a2, c2, L ++ [(xs[k], ([.int .i64 q.op, .int .u64 q.set.a, .int .u64 q.set.b, .int .u64 q.set.c, .int .u64 q.set.d, .int .i64 q.lo, .int .i64 q.hi, .int .i64 q.gr, .slice ad' m' cap''] : List Value))], by omega, rfl, by go_num, ⟨by simp [HL.out.1], by rw [List.map_append, HL.out.2, List.take_add_one, List.getElem?_eq_getElem hlt]; rfl⟩, HX3.out⟩
        case measure => simp [intOf]; omega
      · obtain rfl : k = xs.length := by omega
        have q2 := HX.out.2.2.1.c9
        have z2 := HX.out.2.2.1.lt
        go_wp2_with fail
        have hL : L.map Prod.fst = xs := by rw [HL.out.2, List.take_length]
        have hT := HX.out.1.node (fun _ h => h) p HWF.out
        rw [hL] at hT
        have hb := below9 (HX.out.2.2.2.setCell (p := ⟨w.heap.size, 8, none⟩) (Nat.le_refl _) (.slice a xs.length c)) (by omega : w.heap.size ≤ w.heap.size + 1) (.int .i64 p.op) (.int .u64 p.set.a) (.int .u64 p.set.b) (.int .u64 p.set.c) (.int .u64 p.set.d) (.int .i64 p.lo) (.int .i64 p.hi) (.int .i64 p.gr) (.slice a xs.length c)
        refine ret_row 2 28 rfl (w.heap.size + 1) rfl (p.cells (.slice a xs.length c)) (CellsAt.of_row (T := 28) ((HX.out.2.2.1.other (by omega) _ _).set9 _ _ _ _ _ _ _ _ _)) _ Tryd.underlying28 rfl (size_relen rfl) rfl ?_
        refine ⟨_, rfl, ?_, hb⟩
        refine (hT.but (Bs := [w.heap.size, w.heap.size + 1]) (But.set9 ((But.refl _ wr).setCell (p := ⟨w.heap.size, 8, none⟩) (.inl (by simp)) (.slice a xs.length c)) (.inl (by simp)) (.int .i64 p.op) (.int .u64 p.set.a) (.int .u64 p.set.b) (.int .u64 p.set.c) (.int .u64 p.set.d) (.int .i64 p.lo) (.int .i64 p.hi) (.int .i64 p.gr) (.slice a xs.length c)) (fun i hi => by simp; omega)).mono (fun i hi => by omega)
end Go.Proofs.YthnpbopnpdlmnaaDoor
