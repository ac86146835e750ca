/- A store that counts down, beside one that does not; plainly. And the reference's comparison of lists. -/
import Derived.Test.YtnncbbfbnccnbaaTwo
import Derived.BigQuiet
namespace Go.Proofs.Ytnncbbfbnccnbaa
open Go.RowKit Go.Maps Go.Sort
attribute [local go_sem] gives givesUpon

theorem began_cnt (l u p : Int) (fs : List Fl) {k : Int} (hk : 2 ≤ k) : (⟨l, u, p, fs, false, k⟩ : Ab).began = ⟨l, u, p, fs, false, k - 1⟩ := by
  unfold Ab.began
  simp only [Bool.false_eq_true, if_false]
  rw [if_neg (by omega), if_pos (by omega)]
theorem began_zero (l u p : Int) (fs : List Fl) : (⟨l, u, p, fs, false, 0⟩ : Ab).began = ⟨l, u, p, fs, false, 0⟩ := rfl
theorem find_cnt (l u p : Int) (fs : List Fl) (c d : Bool) (k m : Int) (nm : List UInt8) : (⟨l, u, p, fs, c, k⟩ : Ab).find nm = (⟨l, u, p, fs, d, m⟩ : Ab).find nm := rfl
theorem dropped_cnt (l u p : Int) (fs : List Fl) (k m : Int) (nm : List UInt8) : (⟨l, u, p, fs, false, k⟩ : Ab).dropped nm = { (⟨l, u, p, fs, false, m⟩ : Ab).dropped nm with count := k } := by
  unfold Ab.dropped
  rw [find_cnt l u p fs false false k m]
  cases (⟨l, u, p, fs, false, m⟩ : Ab).find nm <;> rfl
theorem dropped_same (a : Ab) (nm : List UInt8) : (a.dropped nm).crash = a.crash ∧ (a.dropped nm).count = a.count := by
  unfold Ab.dropped
  cases a.find nm <;> exact ⟨rfl, rfl⟩
def Cnt (k : Int) (r r' : (List UInt8 × Int) × Ab) : Prop := r'.1 = r.1 ∧ r'.2 = { r.2 with count := k } ∧ r.2.crash = false ∧ r.2.count = 0
theorem create_cnt {a : Ab} (h : a.crash = false) (h0 : a.count = 0) {k : Int} (hk : 2 ≤ k) (nm : List UInt8) : Cnt (k - 1) (lift (a.create nm)) (lift (({ a with count := k } : Ab).create nm)) := by
  obtain ⟨l, u, p, fs, cr, ct⟩ := a
  simp only at h h0
  subst h h0
  show Cnt (k - 1) (lift (Ab.create ⟨l, u, p, fs, false, 0⟩ nm)) (lift (Ab.create ⟨l, u, p, fs, false, k⟩ nm))
  unfold Ab.create
  rw [began_cnt l u p fs hk, began_zero]
  simp only [find_cnt l u p fs false false (k - 1) 0, Bool.false_eq_true, if_false]
  cases nameOk nm with
  | false =>
    simp only [if_true]
    exact ⟨rfl, rfl, rfl, rfl⟩
  | true =>
    simp only [Bool.true_eq_false, if_false]
    cases (⟨l, u, p, fs, false, 0⟩ : Ab).find nm with
    | some f => exact ⟨rfl, rfl, rfl, rfl⟩
    | none =>
      simp only []
      by_cases hq : 64 ≤ fs.length
      · simp only [if_pos hq]
        first | exact ⟨rfl, rfl, rfl, rfl⟩ | (split <;> first | exact ⟨rfl, rfl, rfl, rfl⟩ | (rename_i hq2; first | exact absurd hq hq2 | exact absurd hq2 hq))
      · simp only [if_neg hq]
        first | exact ⟨rfl, rfl, rfl, rfl⟩ | (split <;> first | exact ⟨rfl, rfl, rfl, rfl⟩ | (rename_i hq2; first | exact absurd hq hq2 | exact absurd hq2 hq))
theorem append_cnt {a : Ab} (h : a.crash = false) (h0 : a.count = 0) {k : Int} (hk : 2 ≤ k) (nm tx : List UInt8) : Cnt (k - 1) (lift (a.append nm tx)) (lift (({ a with count := k } : Ab).append nm tx)) := by
  obtain ⟨l, u, p, fs, cr, ct⟩ := a
  simp only at h h0
  subst h h0
  show Cnt (k - 1) (lift (Ab.append ⟨l, u, p, fs, false, 0⟩ nm tx)) (lift (Ab.append ⟨l, u, p, fs, false, k⟩ nm tx))
  unfold Ab.append
  rw [began_cnt l u p fs hk, began_zero]
  simp only [find_cnt l u p fs false false (k - 1) 0, Bool.false_eq_true, if_false]
  cases (⟨l, u, p, fs, false, 0⟩ : Ab).find nm with
  | none => exact ⟨rfl, rfl, rfl, rfl⟩
  | some f =>
    simp only []
    by_cases hq : l < u + tx.length
    · simp only [if_pos hq]
      first | exact ⟨rfl, rfl, rfl, rfl⟩ | (split <;> first | exact ⟨rfl, rfl, rfl, rfl⟩ | (rename_i hq2; first | exact absurd hq hq2 | exact absurd hq2 hq))
    · simp only [if_neg hq]
      first | exact ⟨rfl, rfl, rfl, rfl⟩ | (split <;> first | exact ⟨rfl, rfl, rfl, rfl⟩ | (rename_i hq2; first | exact absurd hq hq2 | exact absurd hq2 hq))
theorem sync_cnt {a : Ab} (h : a.crash = false) (h0 : a.count = 0) {k : Int} (hk : 2 ≤ k) (nm : List UInt8) : Cnt (k - 1) (lift (a.sync nm)) (lift (({ a with count := k } : Ab).sync nm)) := by
  obtain ⟨l, u, p, fs, cr, ct⟩ := a
  simp only at h h0
  subst h h0
  show Cnt (k - 1) (lift (Ab.sync ⟨l, u, p, fs, false, 0⟩ nm)) (lift (Ab.sync ⟨l, u, p, fs, false, k⟩ nm))
  unfold Ab.sync
  rw [began_cnt l u p fs hk, began_zero]
  simp only [find_cnt l u p fs false false (k - 1) 0, Bool.false_eq_true, if_false]
  cases (⟨l, u, p, fs, false, 0⟩ : Ab).find nm <;> exact ⟨rfl, rfl, rfl, rfl⟩
theorem remove_cnt {a : Ab} (h : a.crash = false) (h0 : a.count = 0) {k : Int} (hk : 2 ≤ k) (nm : List UInt8) : Cnt (k - 1) (lift (a.remove nm)) (lift (({ a with count := k } : Ab).remove nm)) := by
  obtain ⟨l, u, p, fs, cr, ct⟩ := a
  simp only at h h0
  subst h h0
  show Cnt (k - 1) (lift (Ab.remove ⟨l, u, p, fs, false, 0⟩ nm)) (lift (Ab.remove ⟨l, u, p, fs, false, k⟩ nm))
  unfold Ab.remove
  rw [began_cnt l u p fs hk, began_zero]
  simp only [find_cnt l u p fs false false (k - 1) 0, Bool.false_eq_true, if_false]
  cases (⟨l, u, p, fs, false, 0⟩ : Ab).find nm with
  | none => exact ⟨rfl, rfl, rfl, rfl⟩
  | some f => exact ⟨rfl, dropped_cnt l u p fs _ 0 nm, (dropped_same _ nm).1, (dropped_same _ nm).2⟩
theorem rename_cnt {a : Ab} (h : a.crash = false) (h0 : a.count = 0) {k : Int} (hk : 2 ≤ k) (nm nw : List UInt8) : Cnt (k - 1) (lift (a.rename nm nw)) (lift (({ a with count := k } : Ab).rename nm nw)) := by
  obtain ⟨l, u, p, fs, cr, ct⟩ := a
  simp only at h h0
  subst h h0
  show Cnt (k - 1) (lift (Ab.rename ⟨l, u, p, fs, false, 0⟩ nm nw)) (lift (Ab.rename ⟨l, u, p, fs, false, k⟩ nm nw))
  unfold Ab.rename
  rw [began_cnt l u p fs hk, began_zero]
  simp only [find_cnt l u p fs false false (k - 1) 0, Bool.false_eq_true, if_false]
  cases (⟨l, u, p, fs, false, 0⟩ : Ab).find nm with
  | none => exact ⟨rfl, rfl, rfl, rfl⟩
  | some f =>
    simp only []
    by_cases hq : nameOk nw = false
    · simp only [if_pos hq]
      first | exact ⟨rfl, rfl, rfl, rfl⟩ | (split <;> first | exact ⟨rfl, rfl, rfl, rfl⟩ | (rename_i hq2; first | exact absurd hq hq2 | exact absurd hq2 hq))
    simp only [if_neg hq]
    by_cases hr : nm = nw
    · simp only [if_pos hr]
      exact ⟨rfl, rfl, rfl, rfl⟩
    · simp only [if_neg hr]
      rw [dropped_cnt l u p fs (k - 1) 0 nw]
      exact ⟨rfl, rfl, (dropped_same _ nw).1, (dropped_same _ nw).2⟩
theorem read_cnt {a : Ab} (h : a.crash = false) (h0 : a.count = 0) {k : Int} (hk : 2 ≤ k) (nm : List UInt8) (i n : Int) : Cnt (k - 1) (((a.read nm i n).1, (a.read nm i n).2.1), (a.read nm i n).2.2) (((({ a with count := k } : Ab).read nm i n).1, (({ a with count := k } : Ab).read nm i n).2.1), (({ a with count := k } : Ab).read nm i n).2.2) := by
  obtain ⟨l, u, p, fs, cr, ct⟩ := a
  simp only at h h0
  subst h h0
  show Cnt (k - 1) (((Ab.read ⟨l, u, p, fs, false, 0⟩ nm i n).1, (Ab.read ⟨l, u, p, fs, false, 0⟩ nm i n).2.1), (Ab.read ⟨l, u, p, fs, false, 0⟩ nm i n).2.2) (((Ab.read ⟨l, u, p, fs, false, k⟩ nm i n).1, (Ab.read ⟨l, u, p, fs, false, k⟩ nm i n).2.1), (Ab.read ⟨l, u, p, fs, false, k⟩ nm i n).2.2)
  unfold Ab.read
  rw [began_cnt l u p fs hk, began_zero]
  simp only [find_cnt l u p fs false false (k - 1) 0, Bool.false_eq_true, if_false]
  cases (⟨l, u, p, fs, false, 0⟩ : Ab).find nm with
  | none => exact ⟨rfl, rfl, rfl, rfl⟩
  | some f =>
    simp only []
    by_cases hq : i < 0 ∨ (f.text.length : Int) < i ∨ n < 0
    · simp only [if_pos hq]
      first | exact ⟨rfl, rfl, rfl, rfl⟩ | (split <;> first | exact ⟨rfl, rfl, rfl, rfl⟩ | (rename_i hq2; first | exact absurd hq hq2 | exact absurd hq2 hq))
    · simp only [if_neg hq]
      first | exact ⟨rfl, rfl, rfl, rfl⟩ | (split <;> first | exact ⟨rfl, rfl, rfl, rfl⟩ | (rename_i hq2; first | exact absurd hq hq2 | exact absurd hq2 hq))
theorem call_cnt {a : Ab} (h : a.crash = false) (h0 : a.count = 0) {k : Int} (hk : 2 ≤ k) (c : CallD) (hc : 0 ≤ c.op ∧ c.op ≤ 5) : Cnt (k - 1) (a.call c) (({ a with count := k } : Ab).call c) := by
  obtain ⟨op, nm, tx, st, n, kept⟩ := c
  simp only at hc
  have : op = 0 ∨ op = 1 ∨ op = 2 ∨ op = 3 ∨ op = 4 ∨ op = 5 := by omega
  rcases this with rfl | rfl | rfl | rfl | rfl | rfl
  · exact create_cnt h h0 hk _
  · exact append_cnt h h0 hk _ _
  · exact read_cnt h h0 hk _ _ _
  · exact sync_cnt h h0 hk _
  · exact rename_cnt h h0 hk _ _
  · exact remove_cnt h h0 hk _
theorem call_dead {a : Ab} (h : a.began.crash = true) (c : CallD) (hc : 0 ≤ c.op ∧ c.op ≤ 5) : a.call c = (([], 19), a.began) := by
  obtain ⟨op, nm, tx, st, n, kept⟩ := c
  simp only at hc
  have : op = 0 ∨ op = 1 ∨ op = 2 ∨ op = 3 ∨ op = 4 ∨ op = 5 := by omega
  rcases this with rfl | rfl | rfl | rfl | rfl | rfl
  · show lift (a.create _) = _
    unfold Ab.create
    rw [if_pos h]; rfl
  · show lift (a.append _ _) = _
    unfold Ab.append
    rw [if_pos h]; rfl
  · show ((_, _), _) = _
    unfold Ab.read
    rw [if_pos h]
  · show lift (a.sync _) = _
    unfold Ab.sync
    rw [if_pos h]; rfl
  · show lift (a.rename _ _) = _
    unfold Ab.rename
    rw [if_pos h]; rfl
  · show lift (a.remove _) = _
    unfold Ab.remove
    rw [if_pos h]; rfl
/-- The two stores of the law: the first counts down from 1 + n, and 'made' operations have gone. -/
structure Down (n made : Nat) (a b : Ab) : Prop where
  le : made ≤ n
  crash : b.crash = false
  count : b.count = 0
  eq : a = { b with count := 1 + n - made } ∨ made = n ∧ a = { b with crash := true, count := 0 }
theorem Down.before {n made : Nat} {a b : Ab} (h : Down n made a b) (hm : made < n) (c : CallD) (hc : 0 ≤ c.op ∧ c.op ≤ 5) : (a.call c).1 = (b.call c).1 ∧ Down n (made + 1) (a.call c).2 (b.call c).2 := by
  obtain ⟨h1, h2, h3, h4⟩ := h
  rcases h4 with rfl | ⟨h5, -⟩
  · obtain ⟨g1, g2, g3, g4⟩ := call_cnt h2 h3 (k := 1 + n - made) (by omega) c hc
    refine ⟨g1, by omega, g3, g4, .inl ?_⟩
    rw [g2, show 1 + (n : Int) - made - 1 = 1 + n - ((made + 1 : Nat) : Int) by omega]
  · omega
theorem Down.behind {n : Nat} {a b : Ab} (h : Down n n a b) (c : CallD) (hc : 0 ≤ c.op ∧ c.op ≤ 5) : (a.call c).1 = ([], 19) ∧ Down n n (a.call c).2 b := by
  obtain ⟨h1, h2, h3, h4⟩ := h
  have hb : a.began = { b with crash := true, count := 0 } := by
    rcases h4 with rfl | ⟨-, rfl⟩
    · unfold Ab.began
      simp only [h2, Bool.false_eq_true, if_false]
      rw [if_pos (by omega)]
    · rfl
  rw [call_dead (by rw [hb]) c hc, hb]
  exact ⟨rfl, h1, h2, h3, .inr ⟨rfl, rfl⟩⟩
theorem Down.same {n made : Nat} {a b : Ab} (h : Down n made a b) : a.files = b.files ∧ a.peak = b.peak := by
  rcases h.eq with h | ⟨-, h⟩ <;> rw [h] <;> exact ⟨rfl, rfl⟩

set_option maxRecDepth 100000 in
set_option maxHeartbeats 4000000 in
theorem SameFiles_any (w : World) (p q : Option Addr) (cp cq : Nat) (L : List Fl) (hp : FilesAt w p L) (hq : FilesAt w q L) (hn : L.length ≤ 1000000) :
    Calls Try.prog 27 #[.slice p L.length cp, .slice q L.length cq] w fun e w' => e = .returned (.bool true) ∧ ∃ m, w' = w.drewN m := by
  have HP := hid hp
  have HQ := hid hq
  clear hp hq
  go_enter Try.func27, Try.ntmps27
  go_wp2_with fail
  go_loopw [5] (fun i wr => ∃ k m : Nat, k ≤ L.length ∧ i = .int .i64 k ∧ wr = w.drewN m) (fun i _ => L.length - (intOf i).toNat)
  case atStart => exact ⟨0, 0, by omega, rfl, rfl⟩
  case round =>
    obtain ⟨k, m, hk, rfl, rfl⟩ := hrel
    rcases Nat.lt_or_ge k L.length with hlt | hge
    · obtain ⟨b, rfl, hb, hc⟩ : ∃ b, p = some ⟨b, 0, none⟩ ∧ b < w.heap.size ∧ ∀ i (h : i < L.length), CellsAt w b (i * 3) (fcells L[i]) := by
        rcases HP.out with h | h
        · rw [h] at hlt; cases hlt
        · exact h
      obtain ⟨d, rfl, hd, hc2⟩ : ∃ b, q = some ⟨b, 0, none⟩ ∧ b < w.heap.size ∧ ∀ i (h : i < L.length), CellsAt w b (i * 3) (fcells L[i]) := by
        rcases HQ.out with h | h
        · rw [h] at hlt; cases hlt
        · exact h
      have HC := hid (hc k hlt)
      have HD := hid (hc2 k hlt)
      have hkI : (k : Int) < (L.length : Int) := by omega
      have hkJ : (k : Int) ≤ 1000000 := by omega
      obtain ⟨c0, c1, c2⟩ := cells3 HC.out
      obtain ⟨d0, d1, d2⟩ := cells3 HD.out
      clear hc hc2
      go_wp2_with fail
      go_quiet (fail)
      go_wp2_with fail
      refine ⟨⟨k + 1, m + nq, hlt, rfl, rfl⟩, ?_⟩
      show L.length - ((k : Int) + 1).toNat < L.length - (k : Int).toNat
      omega
    · go_wp2_with fail
      go_ret
      exact ⟨rfl, m, rfl⟩
end Go.Proofs.Ytnncbbfbnccnbaa
