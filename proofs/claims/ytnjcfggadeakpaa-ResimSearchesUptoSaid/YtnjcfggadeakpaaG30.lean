/- The reference's closed: marks, closed under the steps without a byte. -/
import Derived.Test.YtnjcfggadeakpaaG29
import Derived.WalkMore
namespace Go.Proofs.Ytnjcfggadeakpaa
open Go.RowKit
attribute [local go_sem] gives givesUpon

def boolRow (mk : Nat → Bool) (n : Nat) : List Value := (List.range n).map fun k => .bool (mk k)
def updB (mk : Nat → Bool) (k : Nat) : Nat → Bool := fun j => if j = k then true else mk j
theorem boolRow_get {mk : Nat → Bool} {n k : Nat} (h : k < n) : (boolRow mk n)[k]? = some (.bool (mk k)) := by
  unfold boolRow
  rw [List.getElem?_map, List.getElem?_range h]
  rfl
theorem boolRow_len {mk : Nat → Bool} {n : Nat} : (boolRow mk n).length = n := by unfold boolRow; simp
theorem boolRow_set {mk : Nat → Bool} {n k : Nat} : (boolRow mk n).set k (.bool true) = boolRow (updB mk k) n := by
  apply List.ext_getElem?
  intro j
  by_cases hj : j < n
  · rw [boolRow_get hj]
    unfold updB
    split
    · rename_i e
      subst e
      rw [List.getElem?_set_self (by rw [boolRow_len]; exact hj)]
    · rename_i e
      rw [List.getElem?_set_ne (fun h => e h.symm), boolRow_get hj]
  · rw [List.getElem?_eq_none (by rw [List.length_set, boolRow_len]; omega), List.getElem?_eq_none (by rw [boolRow_len]; omega)]
theorem boolRow_false (n : Nat) : boolRow (fun _ => false) n = List.replicate n (.bool false) := by
  unfold boolRow
  rw [List.map_const']
  simp
/-- How many are not marked. -/
def cnt (mk : Nat → Bool) : Nat → Nat
  | 0 => 0
  | n + 1 => cnt mk n + (if mk n = true then 0 else 1)
theorem cnt_same (mk : Nat → Bool) (k : Nat) : ∀ n, n ≤ k → cnt (updB mk k) n = cnt mk n
  | 0, _ => rfl
  | n + 1, h => by
    unfold cnt
    rw [cnt_same mk k n (by omega)]
    have e : updB mk k n = mk n := by unfold updB; rw [if_neg (by omega)]
    rw [e]
theorem cnt_less (mk : Nat → Bool) (k : Nat) (hk : mk k = false) : ∀ n, k < n → cnt (updB mk k) n + 1 = cnt mk n
  | n + 1, h => by
    unfold cnt
    rcases Nat.lt_or_ge k n with h1 | h1
    · have := cnt_less mk k hk n h1
      have e : updB mk k n = mk n := by unfold updB; rw [if_neg (by omega)]
      rw [e]; omega
    · obtain rfl : k = n := by omega
      rw [cnt_same mk k k (Nat.le_refl _)]
      have e : updB mk k k = true := by unfold updB; rw [if_pos rfl]
      rw [e, if_pos rfl, hk]
      rfl
theorem cnt_congr {f g : Nat → Bool} : ∀ n, (∀ k, k < n → f k = g k) → cnt f n = cnt g n
  | 0, _ => rfl
  | n + 1, h => by
    unfold cnt
    rw [cnt_congr n (fun k hk => h k (by omega)), h n (by omega)]
theorem updB_of {mk : Nat → Bool} {k : Nat} (h : mk k = true) : updB mk k = mk := by
  funext j
  unfold updB
  split
  · rename_i e; subst e; exact h.symm
  · rfl
theorem updB_true {mk : Nat → Bool} {k j : Nat} : updB mk k j = true ↔ j = k ∨ mk j = true := by
  unfold updB
  split
  · rename_i e; simp [e]
  · rename_i e; simp [e]
theorem cnt_le (mk : Nat → Bool) (k n : Nat) (hk : k < n) : cnt (updB mk k) n ≤ cnt mk n := by
  cases h : mk k with
  | true => rw [updB_of h]; exact Nat.le_refl _
  | false => have := cnt_less mk k h n hk; omega
def measB (w : World) (G n : Nat) : Nat := cnt (fun k => match w.cell? ⟨G, k, none⟩ with | some (.bool b) => b | _ => false) n
theorem Row.measB {w : World} {G n : Nat} {mk : Nat → Bool} {T : TypeId} (h : Row w G (boolRow mk n) T) : Go.Proofs.Ytnjcfggadeakpaa.measB w G n = cnt mk n := by
  unfold Go.Proofs.Ytnjcfggadeakpaa.measB
  refine cnt_congr n fun k hk => ?_
  rw [h.cell, boolRow_get hk]
/-- Marks between those that were given and what they reach. -/
structure Cl (m : Sim) (i : Nat) (mk0 mk : Nat → Bool) : Prop where
  old : ∀ k, mk0 k = true → mk k = true
  src : ∀ k, mk k = true → m.Reach i (fun j => mk0 j = true) k
theorem Cl.refl (m : Sim) (i : Nat) (mk : Nat → Bool) : Cl m i mk mk := ⟨fun _ h => h, fun _ h => .base h⟩
theorem Cl.add {m : Sim} {i : Nat} {mk0 mk : Nat → Bool} (h : Cl m i mk0 mk) {k j : Nat} (hk : mk k = true) (hj : j ∈ m.eps i k) : Cl m i mk0 (updB mk j) := by
  refine ⟨fun x hx => updB_true.2 (.inr (h.old x hx)), fun x hx => ?_⟩
  rcases updB_true.1 hx with rfl | hx
  · exact .step (h.src k hk) hj
  · exact h.src x hx
theorem Cl.end {m : Sim} {i : Nat} {mk0 mk : Nat → Bool} (h : Cl m i mk0 mk) (hc : ∀ k, mk k = true → ∀ j, j ∈ m.eps i k → mk j = true) (k : Nat) : mk k = true ↔ m.Reach i (fun j => mk0 j = true) k :=
  ⟨h.src k, fun hr => Sim.Reach.least (V := fun k => mk k = true) h.old hc hr⟩
/-- One round: from mkr on. -/
structure Rd (m : Sim) (i : Nat) (mk0 mkr mk : Nat → Bool) (ch : Bool) (n k : Nat) : Prop where
  cl : Cl m i mk0 mk
  up : ∀ j, mkr j = true → mk j = true
  no : ch = false → mk = mkr ∧ ∀ x, x < k → mkr x = true → ∀ j, j ∈ m.eps i x → mkr j = true
  yes : ch = true → cnt mk n < cnt mkr n
theorem Rd.begin {m : Sim} {i : Nat} {mk0 mkr : Nat → Bool} {n : Nat} (h : Cl m i mk0 mkr) : Rd m i mk0 mkr mkr false n 0 := ⟨h, fun _ h => h, fun _ => ⟨rfl, fun x hx => absurd hx (by omega)⟩, fun h => by cases h⟩
theorem Rd.skip {m : Sim} {i : Nat} {mk0 mkr mk : Nat → Bool} {ch : Bool} {n k : Nat} (h : Rd m i mk0 mkr mk ch n k) (hk : mk k = false) : Rd m i mk0 mkr mk ch n (k + 1) := by
  refine ⟨h.cl, h.up, fun hc => ?_, h.yes⟩
  obtain ⟨h1, h2⟩ := h.no hc
  refine ⟨h1, fun x hx hm j hj => ?_⟩
  rcases Nat.lt_or_ge x k with h3 | h3
  · exact h2 x h3 hm j hj
  · obtain rfl : x = k := by omega
    rw [h1, hm] at hk
    cases hk
/-- One number's steps: the first q of them. -/
structure Rq (m : Sim) (i : Nat) (mk0 mkr mk : Nat → Bool) (ch : Bool) (n k q : Nat) : Prop where
  rd : Rd m i mk0 mkr mk ch n k
  at_ : mk k = true
  fst : ch = false → ∀ j, j ∈ (m.reps i k).take q → mkr j = true
theorem Rq.begin {m : Sim} {i : Nat} {mk0 mkr mk : Nat → Bool} {ch : Bool} {n k : Nat} (h : Rd m i mk0 mkr mk ch n k) (hk : mk k = true) : Rq m i mk0 mkr mk ch n k 0 := ⟨h, hk, fun _ j hj => by simp at hj⟩
theorem Rq.next {m : Sim} {i : Nat} {mk0 mkr mk : Nat → Bool} {ch : Bool} {n k q : Nat} (h : Rq m i mk0 mkr mk ch n k q) (hq : q < (m.reps i k).length) (hl : (m.reps i k)[q] < n) : Rq m i mk0 mkr (updB mk (m.reps i k)[q]) (ch || !mk (m.reps i k)[q]) n k (q + 1) := by
  have hmem : (m.reps i k)[q] ∈ m.eps i k := Sim.mem_reps.1 (List.getElem_mem hq)
  refine ⟨⟨h.rd.cl.add h.at_ hmem, fun j hj => updB_true.2 (.inr (h.rd.up j hj)), fun hc => ?_, fun hc => ?_⟩, updB_true.2 (.inr h.at_), fun hc j hj => ?_⟩
  · simp only [Bool.or_eq_false_iff, Bool.not_eq_false'] at hc
    obtain ⟨h1, h2⟩ := h.rd.no hc.1
    exact ⟨by rw [updB_of hc.2]; exact h1, h2⟩
  · simp only [Bool.or_eq_true, Bool.not_eq_true'] at hc
    rcases Bool.eq_false_or_eq_true ch with h0 | h0
    · have h1 := h.rd.yes h0
      have h2 := cnt_le mk _ n hl
      omega
    · rcases hc with hc | hc
      · rw [h0] at hc; cases hc
      · obtain ⟨h1, -⟩ := h.rd.no h0
        have h2 := cnt_less mk _ hc n hl
        rw [h1] at h2 ⊢
        omega
  · simp only [Bool.or_eq_false_iff, Bool.not_eq_false'] at hc
    rw [List.take_add_one, List.getElem?_eq_getElem hq] at hj
    rcases List.mem_append.1 hj with h3 | h3
    · exact h.fst hc.1 j h3
    · obtain rfl : j = (m.reps i k)[q] := by simpa using h3
      rw [← (h.rd.no hc.1).1]
      exact hc.2
theorem Rq.end {m : Sim} {i : Nat} {mk0 mkr mk : Nat → Bool} {ch : Bool} {n k : Nat} (h : Rq m i mk0 mkr mk ch n k (m.reps i k).length) : Rd m i mk0 mkr mk ch n (k + 1) := by
  refine ⟨h.rd.cl, h.rd.up, fun hc => ?_, h.rd.yes⟩
  obtain ⟨h1, h2⟩ := h.rd.no hc
  refine ⟨h1, fun x hx hm j hj => ?_⟩
  rcases Nat.lt_or_ge x k with h3 | h3
  · exact h2 x h3 hm j hj
  · obtain rfl : x = k := by omega
    have h4 := h.fst hc
    rw [List.take_length] at h4
    exact h4 j (Sim.mem_reps.2 hj)
theorem below_but {n G : Nat} {wb w w' : World} (h : Below n wb w) (hb : But [G] w w') (hG : n ≤ G) (hn : n ≤ w.heap.size) : Below n wb w' :=
  ⟨hb.os.trans h.os, hb.tape.trans h.tape, hb.output.trans h.output, Nat.le_trans h.size hb.size, fun k hk => (hb.block k (by omega) (by simp; omega)).trans (h.block k hk)⟩
end Go.Proofs.Ytnjcfggadeakpaa

/- The reference's closed: its walk. -/
namespace Go.Proofs.Ytnjcfggadeakpaa
open Go.RowKit
attribute [local go_sem] gives givesUpon

/-- What is given to closed. -/
structure Env2 (wb : World) (m : Sim) (a : Option Addr) (str : ByteArray) : Prop where
  ins : InsAt wb a m.L
  right : rightAll m.L
  s : m.s = str.data.toList
  short : str.size ≤ 1000000
set_option maxRecDepth 100000 in
set_option maxHeartbeats 8000000 in
theorem closed_any (wb w : World) (m : Sim) (a : Option Addr) (c : Nat) (str : ByteArray) (i G cg : Nat) (mk : Nat → Bool) (env : Env2 wb m a str) (hbw : Below wb.heap.size wb w) (hG : wb.heap.size ≤ G) (hr : Row w G (boolRow mk m.L.length) 4) (hm : ∀ k, mk k = true → k < m.L.length) (hi : i ≤ str.size) :
    Calls Try.prog 42 #[.agg #[.slice a m.L.length c, .bool m.lines], .string str, .int .i64 i, .slice (some ⟨G, 0, none⟩) m.L.length cg] w fun e w' => e = .returned (.slice (some ⟨G, 0, none⟩) m.L.length cg) ∧ ∃ mk' : Nat → Bool, Row w' G (boolRow mk' m.L.length) 4 ∧ (∀ k, mk' k = true ↔ m.Reach i (fun j => mk j = true) k) ∧ But [G] w w' := by
  have HE := hid env
  have HBW := hid hbw
  have HR0 := hid hr
  have HM := hid hm
  have hkn := env.right.1.2
  have HGW : Hid (G < w.heap.size) := hr.lt
  have HBX : Hid (Row (w.alloc (.cells #[.slice a m.L.length c, .bool m.lines] 24)) w.heap.size [.slice a m.L.length c, .bool m.lines] 24) := Row.at w [.slice a m.L.length c, .bool m.lines] _
  have HB0 : Hid (Below w.heap.size w (w.alloc (.cells #[.slice a m.L.length c, .bool m.lines] 24))) := Grow.alloc w _
  clear env hbw hr hm
  go_enter Try.func42, Try.ntmps42
  go_upto_region 1 with fail
  generalize w.alloc (.cells #[.slice a m.L.length c, .bool m.lines] 24) = w1 at *
  have HR1 := hid (HR0.out.below HB0.out HGW.out)
  have HBL := hid HBX.out.lt
  have HB1 : Hid (But [G] w w1) := But.of_below HB0.out
  have hbne : Hid (w.heap.size ≠ G) := by have := HGW.out; show _ ≠ _; omega
  have HWB1 : Hid (Below wb.heap.size wb w1) := HBW.out.trans (HB0.out.mono HBW.out.size)
  generalize w.heap.size = b0 at HBX HBL hbne
  go_wp2_with fail
  go_loopw [9] (fun vc wr => ∃ (mkr : Nat → Bool) (ch : Bool), vc = .bool ch ∧ Hid (Row wr G (boolRow mkr m.L.length) 4 ∧ Cl m i mk mkr ∧ But [G] w1 wr ∧ (ch = false → ∀ k, mkr k = true → ∀ j, j ∈ m.eps i k → mkr j = true))) (fun vc wr => 2 * measB wr G m.L.length + (match vc with | .bool true => 1 | _ => 0))
  case atStart => exact ⟨mk, true, rfl, HR1.out, Cl.refl _ _ _, But.refl _ _, fun h => by cases h⟩
  case round =>
    obtain ⟨mkr, ch, rfl, HX⟩ := hrel
    cases ch with
    | false =>
      go_wp2_with fail
      go_ret
      refine ⟨rfl, mkr, HX.out.1, HX.out.2.1.end (HX.out.2.2.2 (by simp)), HB1.out.trans HX.out.2.2.1⟩
    | true =>
      have HMS := hid HX.out.1.measB
      go_wp2_with fail
      go_loopw [9, 10] (fun vc vk wx => ∃ (mk2 : Nat → Bool) (ch : Bool) (k : Nat), k ≤ m.L.length ∧ vk = .int .i64 k ∧ vc = .bool ch ∧ Hid (Row wx G (boolRow mk2 m.L.length) 4 ∧ Rd m i mk mkr mk2 ch m.L.length k ∧ But [G] w1 wx)) (fun _ vk _ => m.L.length - (intOf vk).toNat)
      case atStart => exact ⟨mkr, false, 0, by omega, rfl, rfl, HX.out.1, Rd.begin HX.out.2.1, HX.out.2.2.1⟩
      case round =>
        obtain ⟨mk2, ch, k, hk, rfl, rfl, HY⟩ := hrel
        rcases Nat.lt_or_ge k m.L.length with hlt | hge
        case inr =>
          obtain rfl : k = m.L.length := by omega
          have HLT : Hid (∀ x, mkr x = true → x < m.L.length) := fun x hx => Sim.Reach.lt HE.out.right HM.out (HX.out.2.1.src x hx)
          have HMS2 := hid HY.out.1.measB
          go_wp2_with fail
          refine ⟨⟨mk2, ch, rfl, HY.out.1, HY.out.2.1.cl, HY.out.2.2, fun hc x hx j hj => ?_⟩, ?_⟩
          · obtain ⟨h1, h2⟩ := HY.out.2.1.no hc
            rw [h1] at hx ⊢
            exact h2 x (HLT.out x hx) hx j hj
          · rw [HMS.out, HMS2.out]
            cases ch with
            | false =>
              rw [(HY.out.2.1.no rfl).1]
              exact Nat.lt_succ_self _
            | true =>
              have := HY.out.2.1.yes rfl
              show 2 * cnt mk2 m.L.length + 1 < 2 * cnt mkr m.L.length + 1
              omega
        have q : wr.cell? ⟨G, k, none⟩ = some (.bool (mk2 k)) := (HY.out.1.cell k).trans (boolRow_get hlt)
        have hkI : (k : Int) < (m.L.length : Int) := by omega
        have hlw := HY.out.1.lt
        rcases hmk : mk2 k with _ | _
        · rw [hmk] at q
          go_wp2_with fail
          refine ⟨⟨mk2, ch, k + 1, hlt, rfl, rfl, HY.out.1, HY.out.2.1.skip hmk, HY.out.2.2⟩, ?_⟩
          show m.L.length - ((k : Int) + 1).toNat < m.L.length - (k : Int).toNat
          omega
        rw [hmk] at q
        have HBX2 := hid (HBX.out.but HY.out.2.2 (by simp; exact hbne.out))
        have hbx := HBX2.out.lt
        have q2 : wr.cell? ⟨b0, 0, none⟩ = some (.slice a m.L.length c) ∧ wr.cell? ⟨b0, 1, none⟩ = some (.bool m.lines) := ⟨HBX2.out.cell 0, HBX2.out.cell 1⟩
        have HWB2 := hid (below_but HWB1.out HY.out.2.2 hG HWB1.out.size)
        have HNX := hid (next_ref_any wr m a c str i k (HE.out.ins.below HWB2.out (Nat.le_refl _)) HE.out.right hlt HE.out.s hi HE.out.short)
        have HGR : Hid (G < wr.heap.size) := hlw
        have HRL : Hid (∀ j, j ∈ m.reps i k → j < m.L.length) := fun j hj => Sim.eps_lt HE.out.right hlt (Sim.mem_reps.1 hj)
        have HRQ := hid (Rq.begin HY.out.2.1 hmk)
        go_wp2_with fail
        refine HNX.out.mono ?_
        rintro e w5 ⟨v5, rfl, hown, hb5⟩
        obtain ⟨a5, c5, rfl⟩ := ownsRow_shape hown
        have hlen5 : (m.reps i k).length ≤ 2 := by
          unfold Sim.reps
          repeat' split
          all_goals simp
        have HO5 := hid hown
        have HY5 : Hid (Row w5 G (boolRow mk2 m.L.length) 4 ∧ But [G] w1 w5) := ⟨HY.out.1.below hb5 HGR.out, HY.out.2.2.trans (But.of_below hb5)⟩
        clear hown hb5 q q2 HNX
        go_wp2_with fail
        go_loopw [9, 31] (fun vc vi wx => ∃ (mk3 : Nat → Bool) (ch3 : Bool) (q : Nat), q ≤ (m.reps i k).length ∧ vi = .int .i64 q ∧ vc = .bool ch3 ∧ Hid (Row wx G (boolRow mk3 m.L.length) 4 ∧ Rq m i mk mkr mk3 ch3 m.L.length k q ∧ But [G] w5 wx)) (fun _ vi _ => (m.reps i k).length - (intOf vi).toNat)
        case atStart => exact ⟨mk2, ch, 0, by omega, rfl, rfl, HY5.out.1, HRQ.out, But.refl _ _⟩
        case round =>
          obtain ⟨mk3, ch3, q, hq, rfl, rfl, HZ⟩ := hrel
          rcases Nat.lt_or_ge q (m.reps i k).length with hql | hqe
          case inr =>
            obtain rfl : q = (m.reps i k).length := by omega
            go_wp2_with fail
            refine ⟨⟨mk3, ch3, k + 1, hlt, rfl, rfl, HZ.out.1, HZ.out.2.1.end, HY5.out.2.trans HZ.out.2.2⟩, ?_⟩
            show m.L.length - ((k : Int) + 1).toNat < m.L.length - (k : Int).toNat
            omega
          have hxl := HRL.out _ (List.getElem_mem hql)
          have HNQ := hid (HZ.out.2.1.next hql hxl)
          obtain ⟨g5, rfl, hc5⟩ : ∃ g, a5 = some ⟨g, 0, none⟩ ∧ wr.cell? ⟨g, q, none⟩ = some (.int .i64 ((m.reps i k)[q] : Nat)) := by
            rcases HO5.out.2 with ⟨-, h2⟩ | ⟨g, cap, cur, hv, hge, -⟩
            · omega
            · injection hv with e1
              subst e1
              have hg5 := (HO5.out.lt g rfl)
              refine ⟨g, rfl, ?_⟩
              have h1 := World.ownsRow.cells HO5.out (g := g) rfl q (.int .i64 ((m.reps i k)[q] : Nat)) (by unfold natsV; rw [List.getElem?_map, List.getElem?_eq_getElem hql]; rfl)
              rw [Addr.add_lit, Nat.zero_add] at h1
              have hGR := HGR.out
              have h3 := HZ.out.2.2.block g hg5.2 (by simp; omega)
              rw [← h1]
              simp only [World.cell?, h3]
          have hxn := hxl
          generalize hxv : (m.reps i k)[q] = xv at *
          have qg : wr.cell? ⟨G, xv, none⟩ = some (.bool (mk3 xv)) := (HZ.out.1.cell xv).trans (boolRow_get hxl)
          have fg := HZ.out.1.free xv
          have hlg := HZ.out.1.lt
          have HST : Hid (Row (wr.setCell ⟨G, xv, none⟩ (.bool true)) G (boolRow (updB mk3 xv) m.L.length) 4 ∧ But [G] w5 (wr.setCell ⟨G, xv, none⟩ (.bool true))) := by
            refine ⟨?_, HZ.out.2.2.setCell (.inl (by simp)) _⟩
            have h1 := HZ.out.1.set xv (.bool true)
            rw [boolRow_set] at h1
            exact h1
          have hqI : (q : Int) < ((m.reps i k).length : Int) := by omega
          have hxI : (xv : Int) < (m.L.length : Int) := by omega
          clear hxv
          generalize mk3 xv = bx at *
          cases ch3 <;> cases bx
          all_goals
            go_wp2_with fail
            refine ⟨⟨updB mk3 xv, _, q + 1, hql, rfl, rfl, HST.out.1, HNQ.out, HST.out.2⟩, ?_⟩
            show (m.reps i k).length - ((q : Int) + 1).toNat < (m.reps i k).length - (q : Int).toNat
            omega
end Go.Proofs.Ytnjcfggadeakpaa
