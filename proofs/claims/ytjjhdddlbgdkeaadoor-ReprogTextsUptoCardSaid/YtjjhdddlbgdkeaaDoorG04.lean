/- The numbers of nodes of a tree: what each call that counts them returns. -/
import Derived.Test.YtjjhdddlbgdkeaaDoorProg
import Derived.Test.YtjjhdddlbgdkeaaDoorG01
import Derived.Test.YtjjhdddlbgdkeaaDoorG03
import Derived.Laws.OwnMore
import Derived.Deep.AppendLies
namespace Go.Proofs.YtjjhdddlbgdkeaaDoor
open Go.RowKit

mutual
/-- The number of nodes whose operator fits. -/
def Re.count (q : Int → Bool) : Re → Nat
  | .mk p xs => Re.counts q xs + if q p.op then 1 else 0
def Re.counts (q : Int → Bool) : List Re → Nat
  | [] => 0
  | t :: ts => t.count q + Re.counts q ts
end
def Re.size (t : Re) : Nat := t.count fun _ => true
def Re.sizes (l : List Re) : Nat := Re.counts (fun _ => true) l
def Re.groups (t : Re) : Nat := t.count (· == 6)
def Re.backs (t : Re) : Nat := t.count (· == 9)
theorem Re.size_mk (p : Pay) (xs : List Re) : (Re.mk p xs).size = Re.sizes xs + 1 := by simp [Re.size, Re.count, Re.sizes]
theorem Re.counts_take (q : Int → Bool) : ∀ (xs : List Re) (i : Nat) (a : Re), xs[i]? = some a → Re.counts q (xs.take (i + 1)) = Re.counts q (xs.take i) + a.count q
  | t :: ts, 0, a, h => by simp at h; subst h; simp [Re.counts]
  | t :: ts, i + 1, a, h => by
    have := Re.counts_take q ts i a (by simpa using h)
    simp [Re.counts, this]; omega
theorem Re.counts_take_le (q : Int → Bool) : ∀ (xs : List Re) (i : Nat), Re.counts q (xs.take i) ≤ Re.counts q xs
  | [], i => by simp
  | t :: ts, 0 => by simp [Re.counts]
  | t :: ts, i + 1 => by have := Re.counts_take_le q ts i; simp [Re.counts]; omega
mutual
theorem Re.count_le (q : Int → Bool) : ∀ t : Re, t.count q ≤ t.size
  | .mk p xs => by have := Re.counts_le q xs; rw [Re.size_mk, Re.count]; split <;> omega
theorem Re.counts_le (q : Int → Bool) : ∀ xs : List Re, Re.counts q xs ≤ Re.sizes xs
  | [] => by simp [Re.counts, Re.sizes]
  | t :: ts => by have h1 := Re.count_le q t; have h2 := Re.counts_le q ts; simp only [Re.sizes, Re.counts, Re.size] at *; omega
end
theorem Re.sizes_len : ∀ (xs : List Re), xs.length ≤ Re.sizes xs
  | [] => by simp
  | .mk p l :: ts => by have := Re.sizes_len ts; simp [Re.sizes, Re.counts, Re.count] at *; omega
theorem Re.size_get {xs : List Re} {i : Nat} {a : Re} (h : xs[i]? = some a) : a.size ≤ Re.sizes xs := by
  have h1 := Re.counts_take (fun _ => true) xs i a h
  have h2 := Re.counts_take_le (fun _ => true) xs (i + 1)
  simp only [Re.sizes, Re.size] at *; omega
theorem size_re : (Tryd.prog.info? 53).map (·.size) = some 9 := by kernel_rfl

theorem size_re9 (a b c d e f g h i : Value) : (Tryd.prog.info? 53).map (·.size) = some [a, b, c, d, e, f, g, h, i].length := size_re

/-- A child, wherever the world has gone on. -/
theorem Re.AllIn.kid {wb wr : World} {xs : List Re} {ad : Option Addr} (h : Re.AllIn wb xs ad 0) (hb : Below wb.heap.size wb wr) (k : Nat) (hk : k < xs.length) :
    ∃ (b o : Nat) (p : Pay) (ad' : Option Addr) (n' cap' : Nat), ad = some ⟨b, o, none⟩ ∧ Hid (CellsAt wr b (o + k * 9) [.int .i64 p.op, .int .u64 p.set.a, .int .u64 p.set.b, .int .u64 p.set.c, .int .u64 p.set.d, .int .i64 p.lo, .int .i64 p.hi, .int .i64 p.gr, .slice ad' n' cap']) ∧
      Hid (Re.In wb xs[k] [.int .i64 p.op, .int .u64 p.set.a, .int .u64 p.set.b, .int .u64 p.set.c, .int .u64 p.set.d, .int .i64 p.lo, .int .i64 p.hi, .int .i64 p.gr, .slice ad' n' cap']) ∧ b < wb.heap.size := by
  obtain ⟨b, o, cs, h1, h2, h3⟩ := h.get k xs[k] (by simp [hk])
  have hn := h3.nine
  have hb2 : b < wb.heap.size := h2.block (by rintro rfl; simp at hn)
  cases hx : xs[k] with
  | mk p ys =>
    rw [hx, Re.In] at h3
    obtain ⟨ad', cap', rfl, h3⟩ := h3
    refine ⟨b, o, p, ad', ys.length, cap', h1, ?_, ?_, hb2⟩
    · have := h2.below hb
      show CellsAt _ _ _ _
      simpa [Pay.cells] using this
    · show Re.In _ _ _
      rw [Re.In]
      exact ⟨ad', cap', rfl, h3⟩

/-- Does an operator count? -/
def hits (op o : Int) : Bool := op == 0 || o == op
def tick (op o : Int) : Nat := if hits op o then 1 else 0

set_option maxHeartbeats 400000 in
theorem count1_any (p : Pay) (sl : Value) (op n : Int) (Bo Bn : Nat) (w : World) (ho : Row w Bo [.int .i64 op] 3) (hn : Row w Bn [.int .i64 n] 3) (h0 : 0 ≤ n) (h1 : n ≤ 1048576) :
    Calls Tryd.prog 48 #[.agg #[.int .i64 p.op, .int .u64 p.set.a, .int .u64 p.set.b, .int .u64 p.set.c, .int .u64 p.set.d, .int .i64 p.lo, .int .i64 p.hi, .int .i64 p.gr, sl], .pointer (some ⟨Bo, 0, none⟩), .pointer (some ⟨Bn, 0, none⟩)] w fun e w' =>
      e = .returned (.tuple #[]) ∧ But [Bn] w w' ∧ Row w' Bn [.int .i64 (n + (tick op p.op : Nat))] 3 := by
  have o1 := ho.c1
  have o2 := hn.c1
  have o3 := ho.lt
  have o4 := hn.lt
  have HN := hid hn
  clear ho hn
  by_cases c0 : op = 0
  · obtain rfl := c0
    go_enter Tryd.func48, Tryd.ntmps48
    go_wp2
    go_end0
    exact ⟨rfl, ((But.refl _ _).setCell (by simp) _).alloc _, by simpa [tick, hits] using (HN.out.set 0 (.int .i64 (n + 1))).alloc _⟩
  · have d0 : (op == 0) = false := by simpa using c0
    have H0 := hid d0
    by_cases c1 : p.op = op
    · have d1 : (p.op == op) = true := by simpa using c1
      have H1 := hid d1
      clear c1 c0
      go_enter Tryd.func48, Tryd.ntmps48
      go_wp2
      go_end0
      exact ⟨rfl, ((But.refl _ _).setCell (by simp) _).alloc _, by simpa [tick, hits, H0.out, H1.out] using (HN.out.set 0 (.int .i64 (n + 1))).alloc _⟩
    · have d1 : (p.op == op) = false := by simpa using c1
      have H1 := hid d1
      clear c1 c0
      go_enter Tryd.func48, Tryd.ntmps48
      go_wp2
      go_end0
      exact ⟨rfl, (But.refl _ _).alloc _, by simpa [tick, hits, H0.out, H1.out] using HN.out.alloc _⟩

set_option maxHeartbeats 1000000 in
theorem walk_any (op : Int) (Bo Bn : Nat) (wb : World) (_hBo : wb.heap.size ≤ Bo) (hBn : wb.heap.size ≤ Bn) (hne : Bo ≠ Bn) (t : Re) : ∀ (w : World) (cs : List Value) (n : Nat), t.In wb cs → Below wb.heap.size wb w → Row w Bo [.int .i64 op] 3 → Row w Bn [.int .i64 n] 3 → n + t.size ≤ 1048576 →
    Calls Tryd.prog 47 #[.agg cs.toArray, .func (.func 48) #[] #[.pointer (some ⟨Bo, 0, none⟩), .pointer (some ⟨Bn, 0, none⟩)]] w fun e w' =>
      e = .returned (.tuple #[]) ∧ But [Bn] w w' ∧ Row w' Bn [.int .i64 (n + t.count (hits op) : Nat)] 3 := by
  induction t using Re.ind with
  | h p xs ih =>
    intro w cs n hIn hbw ho hn hsz
    rw [Re.In] at hIn
    obtain ⟨ad, cap, rfl, hwf, hlc, hcm, hnil, hall⟩ := hIn
    rw [Re.size_mk] at hsz
    have hlen := Re.sizes_len xs
    have hsw := hbw.size
    have HBW := hid hbw
    have HO := hid ho
    have HN := hid hn
    have HIH := hid ih
    have HAL := hid hall
    have HNE := hid hne
    clear ih hall hbw ho hn hne
    simp only [Pay.cells]
    go_enter Tryd.func47, Tryd.ntmps47
    go_wp2_with fail
    refine (count1_any p (.slice ad xs.length cap) op n Bo Bn _ (HO.out.alloc _) (HN.out.alloc _) (by omega) (by omega)).mono ?_
    rintro e w1 ⟨rfl, hb1, hr1⟩
    have hbox : Row w1 w.heap.size (p.cells (.slice ad xs.length cap)) 53 := (Row.new (w := w) (cs := p.cells (.slice ad xs.length cap)) rfl).but hb1 (by have := HN.out.lt; simp; omega)
    have q1 := hbox.c9
    have HB1 := hid hb1
    have HR1 := hid hr1
    have HBX := hid hbox
    have hs1 := hb1.size
    clear hb1 hr1 hbox
    have hbw1 : Hid (Below wb.heap.size wb w1) := HBW.out.trans (((Below.refl _ w).alloc (Nat.le_refl _) _).mono hsw |>.trans (HB1.out.below (by simp; omega) (by simp; omega)))
    have hbut1 : Hid (But [Bn] w w1) := ((But.refl _ w).alloc _).trans HB1.out
    have ho1 : Hid (Row w1 Bo [.int .i64 op] 3) := (HO.out.alloc _).but HB1.out (by simpa using HNE.out)
    have hwl := HN.out.lt
    clear HB1 HO HN HBW
    go_wp2_with fail
    go_loopw [12] (fun i wr => ∃ k : Nat, k ≤ xs.length ∧ i = .int .i64 k ∧ Hid (Row wr Bn [.int .i64 ((n + Re.counts (hits op) (xs.take k) + tick op p.op : Nat) : Int)] 3 ∧ But [Bn] w wr ∧ Row wr Bo [.int .i64 op] 3 ∧ Below wb.heap.size wb wr)) (fun i _ => xs.length - (intOf i).toNat)
    case atStart => exact ⟨0, by omega, rfl, by simpa [Re.counts] using HR1.out, hbut1.out, ho1.out, hbw1.out⟩
    case round =>
      obtain ⟨k, hk, rfl, HX⟩ := hrel
      by_cases hlt : k < xs.length
      · obtain ⟨b, o, p', ad', n', cap', rfl, HC, HI0, hbb⟩ := HAL.out.kid HX.out.2.2.2 k hlt
        have hct := Re.counts_take (hits op) xs k xs[k] (by simp [hlt])
        have hcl := Re.counts_le (hits op) xs
        have hc1 := Re.counts_take_le (hits op) xs (k + 1)
        have hsz1 := Re.size_get (xs := xs) (i := k) (a := xs[k]) (by simp [hlt])
        have hst := Re.counts_take (fun _ => true) xs k xs[k] (by simp [hlt])
        have hst1 := Re.counts_take_le (fun _ => true) xs (k + 1)
        have hcl2 := Re.counts_le (hits op) (xs.take k)
        simp only [Re.sizes, Re.size] at *
        have hcall := HIH.out xs[k] (by simp) (wr.alloc (.cells #[.int .i64 p'.op, .int .u64 p'.set.a, .int .u64 p'.set.b, .int .u64 p'.set.c, .int .u64 p'.set.d, .int .i64 p'.lo, .int .i64 p'.hi, .int .i64 p'.gr, .slice ad' n' cap'] 53)) _ (n + Re.counts (hits op) (xs.take k) + tick op p.op) HI0.out (HX.out.2.2.2.alloc (Nat.le_trans hsw (by have := HX.out.2.1.size; omega)) _) (HX.out.2.2.1.alloc _) (HX.out.1.alloc _) (by unfold tick; split <;> omega)
        have HCA := hid hcall
        have hct' := hid hct
        have hwr := HX.out.2.1.size
        clear hcall hct hc1 hcl hsz1 hst hst1 hcl2
        go_wp2_with (first | (with_reducible (refine wpList_load_agg rfl 53 _ rfl b (o + (k * 9)) rfl _ _ HC.out Tryd.underlying53 rfl (size_re9 _ _ _ _ _ _ _ _ _) ?_)))
        refine HCA.out.mono ?_
        rintro e w2 ⟨rfl, hb2, hr2⟩
        have HB2 := hid hb2
        have HR2 := hid hr2
        clear hb2 hr2 HCA
        go_wp2_with fail
        go_roundw
        case rel =>
          refine ⟨k + 1, by omega, by go_num, ?_, (HX.out.2.1.alloc _).trans HB2.out, (HX.out.2.2.1.alloc _).but HB2.out (by simpa using HNE.out), ?_⟩
          · have := HR2.out
            rw [hct'.out]
            rwa [show n + (Re.counts (hits op) (List.take k xs) + xs[k].count (hits op)) + tick op p.op = n + Re.counts (hits op) (List.take k xs) + tick op p.op + xs[k].count (hits op) by omega]
          · exact HX.out.2.2.2.trans (((Below.refl _ wr).alloc (Nat.le_refl _) _).mono (by omega) |>.trans (HB2.out.below (by simp; omega) (by simp; omega)))
        case measure => simp [intOf]; omega
      · obtain rfl : k = xs.length := by omega
        go_wp2
        go_end0
        refine ⟨rfl, HX.out.2.1, ?_⟩
        have := HX.out.1
        simpa [Re.count, Nat.add_assoc, tick] using this

theorem nat_of_hits (op : Int) (hop : op ≠ 0) (t : Re) : t.count (hits op) = t.count (· == op) := by
  have e : hits op = (· == op) := by funext o; unfold hits; simp [hop]
  rw [e]

theorem count_any (op : Int) (t : Re) (w : World) (cs : List Value) (hIn : t.In w cs) (hsz : t.size ≤ 1048576) :
    Calls Tryd.prog 39 #[.agg cs.toArray, .int .i64 op] w fun e w' => e = .returned (.int .i64 (t.count (hits op) : Nat)) ∧ Below w.heap.size w w' := by
  cases t with
  | mk p xs =>
    have hIn' := hIn
    rw [Re.In] at hIn
    obtain ⟨ad, cap, rfl, _⟩ := hIn
    simp only [Pay.cells]
    have HI := hid hIn'
    clear hIn'
    go_enter Tryd.func39, Tryd.ntmps39
    go_wp2_with fail
    refine (walk_any op (w.heap.size + 1) (w.heap.size + 2) w (by omega) (by omega) (by omega) (.mk p xs) _ _ 0 HI.out ?_ ?_ ?_ (by omega)).mono ?_
    · exact (((Below.refl _ w).alloc (Nat.le_refl _) _).alloc (by simp) _).alloc (by simp; omega) _
    · exact (Row.new (cs := [_]) (by simp)).alloc _
    · exact Row.new (cs := [_]) (by simp)
    rintro e w1 ⟨rfl, hb, hr⟩
    have q := hr.c1
    have HB := hid hb
    clear hr hb
    go_wp2_with fail
    go_ret
    refine ⟨ret_int (by simp), ?_⟩
    exact ((((Below.refl _ w).alloc (Nat.le_refl _) _).alloc (by simp) _).alloc (by simp; omega) _).trans (HB.out.below (by simp; omega) (by simp))

-- def RESSize := (.int .i64 (Re.size t : Nat))
-- def RESGroups := (.int .i64 (Re.groups t : Nat))
-- def RESBack := (.bool (decide (0 < Re.backs t)))
-- def ENDSize := ret_int (by simp [Re.size]; rfl)
-- def ENDGroups := ret_int (by rw [nat_of_hits 6 (by decide)]; rfl)
-- def ENDBack := ret_bool (by rw [nat_of_hits 9 (by decide)]; exact decide_eq_decide.2 (by unfold Re.backs; omega))
theorem Back_any (t : Re) (w : World) (cs : List Value) (hIn : t.In w cs) (hsz : t.size ≤ 1048576) :
    Calls Tryd.prog 30 #[.agg cs.toArray] w fun e w' => e = .returned (.bool (decide (0 < Re.backs t))) ∧ Below w.heap.size w w' := by
  cases t with
  | mk p xs =>
    have hIn' := hIn
    rw [Re.In] at hIn
    obtain ⟨ad, cap, rfl, _⟩ := hIn
    simp only [Pay.cells]
    have HI := hid hIn'
    clear hIn'
    go_enter Tryd.func30, Tryd.ntmps30
    go_wp2_with fail
    refine (count_any _ (.mk p xs) _ _ (HI.out.below ((Below.refl _ w).alloc (Nat.le_refl _) _)) hsz).mono ?_
    rintro e w1 ⟨rfl, hb⟩
    have HB := hid hb
    clear hb
    go_wp2_with fail
    all_goals go_ret
    all_goals refine ⟨ret_bool (by rw [nat_of_hits 9 (by decide)]; exact decide_eq_decide.2 (by unfold Re.backs; omega)), ((Below.refl _ w).alloc (Nat.le_refl _) _).trans (HB.out.mono (by simp))⟩
end Go.Proofs.YtjjhdddlbgdkeaaDoor

/- Append to a slice of the call's own: what is owned behind it, and where it may lie. Nothing here speaks of the program. -/
namespace Go.Proofs.YtjjhdddlbgdkeaaDoor
open Go.RowKit

theorem ownsRow_base {w : World} {b b' : Nat} {e : TypeId} {size : Nat} {v : Value} {n : Nat} {xs : List Value} (h : w.ownsRow b e size v n xs) (hb : b' ≤ b) : w.ownsRow b' e size v n xs := by
  obtain ⟨h1, h2⟩ := h
  refine ⟨h1, ?_⟩
  rcases h2 with h2 | ⟨g, cap, cur, hv, hg, hr⟩
  · exact .inl h2
  · exact .inr ⟨g, cap, cur, hv, Nat.le_trans hb hg, hr⟩
theorem ownsRow_shape {w : World} {b : Nat} {e : TypeId} {size : Nat} {v : Value} {n : Nat} {xs : List Value} (h : w.ownsRow b e size v n xs) : ∃ a c, v = .slice a n c := by
  rcases h.2 with ⟨rfl, rfl⟩ | ⟨g, cap, cur, rfl, _⟩
  · exact ⟨_, _, rfl⟩
  · exact ⟨_, _, rfl⟩

theorem wpList_append_row {P : Program} {ops : Array Oper} {rest : List Oper} {o : Oper} {a : Act} {w : World} {Q : Exit → Act → World → Prop} (hgd : o.guard = none) (s x : Operand) (t : TypeId)
    (ho : o.op = .call { callee := .builtin .append, args := #[s, x], argTypes := #[t, t] })
    (base : Nat) (e : TypeId) (i : TypeInfo) (z : Value) (size bytes : Nat) (ht : P.underlying t = some (.slice e)) (hi : P.info? e = some i) (hz : i.zero = some z)
    (hsize : i.size = size) (hby : i.bytes = bytes) (hzs : z.cells.size = size) (hsz : 0 < size)
    (v : Value) (n : Nat) (xs : List Value) (hs : a.eval s = v) (hown : w.ownsRow base e size v n xs)
    (ad : Addr) (m c : Nat) (news : List Value) (hx : a.eval x = .slice (some ad) m c) (hl : news.length = m * size) (hnews : ∀ j u, news[j]? = some u → w.cell? (ad.add j) = some u) (h1 : ∀ u ∈ news, u.oneCell' = true)
    (h63 : n + m ≤ maxLen) (hbytes : (n + m) * bytes ≤ 140737488355328) (hbase : base ≤ w.heap.size) (hm : 0 < m)
    (h : ∀ a' c' w', w'.ownsRow base e size (.slice a' (n + m) c') (n + m) (xs ++ news) → w.grownBy w' v.ownBlock → (∀ g, (Value.slice a' (n + m) c').ownBlock = some g → v.ownBlock = some g ∨ w.heap.size ≤ g) →
      wpList P ops Q rest (a.put o.dst (.slice a' (n + m) c')) w') : wpList P ops Q (o :: rest) a w := by
  have grows : ∀ (ao : Option Addr) (cap : Nat), a.eval s = .slice ao n cap → (ao = none → n = 0 ∧ cap = 0) → (∀ b, ao = some b → ∀ j u, xs[j]? = some u → w.cell? (b.add j) = some u) → cap < n + m → wpList P ops Q (o :: rest) a w := by
    intro ao cap hs' hnone hold hfull
    refine wpList_append_grows w hgd s x t ho e i z size bytes ht hi hz hsize hby hzs hsz ao n cap xs hs' hnone hown.1 hold ad m c news hx hl hnews h1 hfull h63 hbytes fun v' w' ho' hg' => ?_
    obtain ⟨a', c', rfl⟩ := ownsRow_shape ho'
    refine h a' c' w' (ownsRow_base ho' hbase) ⟨hg'.os, hg'.tape, hg'.output, hg'.size, fun k hk _ => hg'.block k hk (by simp)⟩ fun g hg => .inr ?_
    exact (World.ownsRow.lt ho' g hg).1
  have hown0 := hown
  obtain ⟨hlen, hv⟩ := hown
  rcases hv with ⟨rfl, rfl⟩ | ⟨g, cap, cur, rfl, hg, hcur, hnc, hcm, hsz2, hxs⟩
  · exact grows none 0 hs (fun _ => ⟨rfl, rfl⟩) (fun b hb => by cases hb) (by omega)
  · by_cases hfit : n + m ≤ cap
    · exact wpList_append_fits w hgd s x t ho base e i size ht hi hsize g n cap xs hs hown0 ad m c news hx hl hnews h1 hfit fun w' h2 h3 => h _ _ w' h2 h3 fun k hk => .inl hk
    · exact grows (some ⟨g, 0, none⟩) cap hs (fun hb => by cases hb) (fun b hb j u hj => by cases hb; exact World.ownsRow.cells hown0 rfl j u hj) (by omega)
end Go.Proofs.YtjjhdddlbgdkeaaDoor

/- The code of a tree: the plain law, and lists of instructions in the memory. -/
namespace Go.Proofs.YtjjhdddlbgdkeaaDoor
open Go.RowKit

structure Inst where
  op : Int
  set : Cs
  x : Int
  y : Int
deriving DecidableEq
def Inst.cells (i : Inst) : List Value := [.int .i64 i.op, .int .u64 i.set.a, .int .u64 i.set.b, .int .u64 i.set.c, .int .u64 i.set.d, .int .i64 i.x, .int .i64 i.y]
def Inst.of (op : Int) : Inst := ⟨op, Cs.none, 0, 0⟩
def isplit (x y : Int) : Inst := ⟨2, Cs.none, x, y⟩
def ijump (x : Int) : Inst := ⟨3, Cs.none, x, 0⟩

mutual
/-- The number of instructions of a tree. -/
def Re.csize : Re → Nat
  | .mk p xs => if p.op = 2 ∨ p.op = 7 ∨ p.op = 8 then 1 else if p.op = 4 then Re.asize xs else if p.op = 5 then (if p.lo = 1 then Re.csizes xs + 1 else Re.csizes xs + 1 + (if p.hi < 0 then 1 else 0)) else Re.csizes xs
def Re.csizes : List Re → Nat
  | [] => 0
  | t :: ts => t.csize + Re.csizes ts
def Re.asize : List Re → Nat
  | [] => 0
  | t :: ts => t.csize + (if ts.isEmpty then 0 else 2 + Re.asize ts)
end
mutual
/-- The instructions of a tree, the first of which has the number n. -/
def Re.gen : Re → Nat → List Inst
  | .mk p xs, n => if p.op = 2 then [⟨1, p.set, 0, 0⟩] else if p.op = 7 then [Inst.of 4] else if p.op = 8 then [Inst.of 5] else if p.op = 4 then Re.galt xs n (n + Re.asize xs)
    else if p.op = 5 then (if p.lo = 1 then Re.gens xs n ++ [isplit n (n + Re.csizes xs + 1 : Nat)]
      else isplit (n + 1 : Nat) (n + 1 + Re.csizes xs + (if p.hi < 0 then 1 else 0) : Nat) :: (Re.gens xs (n + 1) ++ (if p.hi < 0 then [ijump n] else [])))
    else Re.gens xs n
def Re.gens : List Re → Nat → List Inst
  | [], _ => []
  | t :: ts, n => t.gen n ++ Re.gens ts (n + t.csize)
def Re.galt : List Re → Nat → Nat → List Inst
  | [], _, _ => []
  | t :: ts, n, fin => if ts.isEmpty then t.gen n else isplit (n + 1 : Nat) (n + t.csize + 2 : Nat) :: (t.gen (n + 1) ++ [ijump fin] ++ Re.galt ts (n + t.csize + 2) fin)
end
mutual
theorem Re.gen_len : ∀ (t : Re) (n : Nat), (t.gen n).length = t.csize
  | .mk p xs, n => by
    have h1 := Re.gens_len xs n
    have h2 := Re.gens_len xs (n + 1)
    have h3 := Re.galt_len xs n (n + Re.asize xs)
    rw [Re.gen, Re.csize]
    by_cases o2 : p.op = 2
    · rw [if_pos o2, if_pos (.inl o2)]; rfl
    rw [if_neg o2]
    by_cases o7 : p.op = 7
    · rw [if_pos o7, if_pos (.inr (.inl o7))]; rfl
    rw [if_neg o7]
    by_cases o8 : p.op = 8
    · rw [if_pos o8, if_pos (.inr (.inr o8))]; rfl
    have o278 : ¬ (p.op = 2 ∨ p.op = 7 ∨ p.op = 8) := by omega
    rw [if_neg o8, if_neg o278]
    by_cases o4 : p.op = 4
    · rw [if_pos o4, if_pos o4]; exact h3
    rw [if_neg o4, if_neg o4]
    by_cases o5 : p.op = 5
    · rw [if_pos o5, if_pos o5]
      by_cases hl : p.lo = 1
      · rw [if_pos hl, if_pos hl]; simp [h1]
      · rw [if_neg hl, if_neg hl]
        by_cases hh : p.hi < 0
        · simp [hh, h2]
        · simp [hh, h2]
    · rw [if_neg o5, if_neg o5]; exact h1
theorem Re.gens_len : ∀ (xs : List Re) (n : Nat), (Re.gens xs n).length = Re.csizes xs
  | [], n => by rw [Re.gens, Re.csizes]; rfl
  | t :: ts, n => by rw [Re.gens, Re.csizes, List.length_append, Re.gen_len t n, Re.gens_len ts _]
theorem Re.galt_len : ∀ (xs : List Re) (n fin : Nat), (Re.galt xs n fin).length = Re.asize xs
  | [], n, fin => by rw [Re.galt, Re.asize]; rfl
  | t :: ts, n, fin => by
    have h1 := Re.gen_len t n
    have h2 := Re.gen_len t (n + 1)
    have h3 := Re.galt_len ts (n + t.csize + 2) fin
    rw [Re.galt, Re.asize]
    by_cases h : ts.isEmpty = true
    · rw [if_pos h, if_pos h]; exact h1
    · rw [if_neg h, if_neg h]; simp [h2, h3]; omega
end

/-- The slice value v owns the instructions L. -/
def OwnI (w : World) (base : Nat) (v : Value) (L : List Inst) : Prop := w.ownsRow base 35 7 v L.length (L.flatMap Inst.cells)
theorem flatI_len (L : List Inst) : (L.flatMap Inst.cells).length = L.length * 7 := by
  induction L with
  | nil => rfl
  | cons f l ih => simp [List.flatMap_cons, ih, Inst.cells]; omega
theorem flatI_get (L : List Inst) : ∀ (k : Nat) (f : Inst) (i : Nat), L[k]? = some f → i < 7 → (L.flatMap Inst.cells)[k * 7 + i]? = f.cells[i]? := by
  induction L with
  | nil => intro k f i h; simp at h
  | cons a l ih =>
    intro k f i h hi
    cases k with
    | zero =>
      simp at h
      subst h
      rw [List.flatMap_cons, Nat.zero_mul, Nat.zero_add, List.getElem?_append_left (by simp [Inst.cells]; omega)]
    | succ k =>
      rw [List.flatMap_cons, List.getElem?_append_right (by simp [Inst.cells]; omega)]
      have : (k + 1) * 7 + i - a.cells.length = k * 7 + i := by simp [Inst.cells]; omega
      rw [this]
      exact ih k f i (by simpa using h) hi
theorem flatI_x : ∀ (L : List Inst) (k : Nat) (f : Inst) (v : Int), L[k]? = some f → (L.flatMap Inst.cells).set (k * 7 + 5) (.int .i64 v) = (L.set k { f with x := v }).flatMap Inst.cells
  | a :: l, 0, f, v, h => by
    simp at h
    subst h
    rfl
  | a :: l, k + 1, f, v, h => by
    have ih := flatI_x l k f v (by simpa using h)
    rw [List.set_cons_succ, List.flatMap_cons, List.flatMap_cons, ← ih, show (k + 1) * 7 + 5 = (k * 7 + 5) + 7 by omega]
    rfl
theorem flatI_y : ∀ (L : List Inst) (k : Nat) (f : Inst) (v : Int), L[k]? = some f → (L.flatMap Inst.cells).set (k * 7 + 6) (.int .i64 v) = (L.set k { f with y := v }).flatMap Inst.cells
  | a :: l, 0, f, v, h => by
    simp at h
    subst h
    rfl
  | a :: l, k + 1, f, v, h => by
    have ih := flatI_y l k f v (by simpa using h)
    rw [List.set_cons_succ, List.flatMap_cons, List.flatMap_cons, ← ih, show (k + 1) * 7 + 6 = (k * 7 + 6) + 7 by omega]
    rfl
theorem OwnI.nil (w : World) (base : Nat) : OwnI w base (.slice none 0 0) [] := World.ownsRow_nil _ _ _ _
theorem OwnI.lt {w : World} {base : Nat} {v : Value} {L : List Inst} (h : OwnI w base v L) : ∀ g, v.ownBlock = some g → base ≤ g ∧ g < w.heap.size := World.ownsRow.lt h
theorem OwnI.alloc {w : World} {base : Nat} {v : Value} {L : List Inst} (h : OwnI w base v L) (o : Obj) : OwnI (w.alloc o) base v L := World.ownsRow.alloc h o
theorem OwnI.below {w w' : World} {base : Nat} {v : Value} {L : List Inst} (h : OwnI w base v L) (hb : Below w.heap.size w w') : OwnI w' base v L :=
  World.ownsRow.kept h (row := none) ⟨hb.os, hb.tape, hb.output, hb.size, fun j hj _ => hb.block j hj⟩ (by
    cases hv : v.ownBlock with
    | none => exact .inl rfl
    | some g => exact .inr fun e => by cases e)
theorem OwnI.but {w w' : World} {base M : Nat} {v : Value} {L : List Inst} (h : OwnI w base v L) (hb : But [M] w w') (hM : M < base) : OwnI w' base v L :=
  World.ownsRow.kept h (row := some M) ⟨hb.os, hb.tape, hb.output, hb.size, fun j hj hn => hb.block j hj (by simp; intro e; exact hn (by rw [e]))⟩ (by
    cases hv : v.ownBlock with
    | none => exact .inl rfl
    | some g => refine .inr fun e => ?_; cases e; have := h.lt _ hv; omega)
theorem OwnI.form {w : World} {base : Nat} {v : Value} {L : List Inst} (h : OwnI w base v L) : ∃ a c, v = .slice a L.length c := ownsRow_shape h
/-- A list that is not empty: its block, and the cells of its elements. -/
theorem OwnI.elem {w : World} {base : Nat} {a : Option Addr} {n c : Nat} {L : List Inst} (h : OwnI w base (.slice a n c) L) (k : Nat) (f : Inst) (hk : L[k]? = some f) : n = L.length ∧ ∃ g, a = some ⟨g, 0, none⟩ ∧ base ≤ g ∧ g < w.heap.size ∧ CellsAt w g (k * 7) f.cells ∧ (∀ i, w.frozen? ⟨g, i, none⟩ = false) ∧
    (∀ v, OwnI (w.setCell ⟨g, k * 7 + 5, none⟩ (.int .i64 v)) base (.slice a n c) (L.set k { f with x := v })) ∧ (∀ v, OwnI (w.setCell ⟨g, k * 7 + 6, none⟩ (.int .i64 v)) base (.slice a n c) (L.set k { f with y := v })) := by
  have hkl : k < L.length := (List.getElem?_eq_some_iff.1 hk).1
  obtain ⟨g, cap, hv, hg1, hg2⟩ := World.ownsRow.form h (by omega)
  injection hv with e1 e2 e3
  subst e1 e2 e3
  refine ⟨rfl, g, rfl, hg1, hg2, fun i v hi => ?_, fun i => World.ownsRow.frozenAt h i, fun v => ?_, fun v => ?_⟩
  · have hi7 : i < 7 := by
      rcases Nat.lt_or_ge i 7 with h1 | h1
      · exact h1
      · simp [Inst.cells, h1] at hi
    rw [World.ownsRow.cellAt h (k * 7 + i) (by omega), flatI_get L k f i hk hi7, hi]
  · have h1 := (World.ownsRow.stored h (k * 7 + 5) (.int .i64 v)).1
    rw [flatI_x L k f v hk] at h1
    unfold OwnI
    rw [List.length_set]
    exact h1
  · have h1 := (World.ownsRow.stored h (k * 7 + 6) (.int .i64 v)).1
    rw [flatI_y L k f v hk] at h1
    unfold OwnI
    rw [List.length_set]
    exact h1
end Go.Proofs.YtjjhdddlbgdkeaaDoor
