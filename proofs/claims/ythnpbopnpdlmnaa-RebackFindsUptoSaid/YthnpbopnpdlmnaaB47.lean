/- Reback finds what layer 9 finds, plainly. -/
import Derived.Test.YthnpbopnpdlmnaaB46
import Derived.Test.YthnpbopnpdlmnaaRows
import Derived.Test.YthnpbopnpdlmnaaB03
import Derived.WalkKit
import Derived.ProofKit
import Derived.OpenShut
import Derived.JoinedCond
import Derived.Carry
import Derived.ChangeArms
namespace Go.Proofs.Ythnpbopnpdlmnaa
open Go.RowKit

theorem evat_head {t : Re} {s : ByteArray} {lines : Bool} {i n m : Nat} {o : Out} (he : t.err = 0) (hi : i ≤ s.size) (h : EvAt s.data.toList lines t t.groups i (s.size + 1 - i) n o m) (ho : o ≠ .over) (hr : (atR (parsesR t s i lines) i).2.2 ≠ 11) :
    o.lst = (atR (parsesR t s i lines) i).1 ∧ o.isFound = (atR (parsesR t s i lines) i).2.1 ∧ (atR (parsesR t s i lines) i).2.2 = 0 := by
  have hsl : s.data.toList.length = s.size := by rw [Array.length_toList]; rfl
  have hc : chk t s i = 0 := by
    unfold chk
    rw [if_neg (by simpa using he), if_neg (by omega)]
  have hok := Re.ok_err he
  revert hr
  unfold parsesR
  rw [if_neg (by simpa using hc), show ((i : Nat) : Int).toNat = i by omega]
  cases hp : parses s.data.toList lines t i (unsetAll t.groups) with
  | none => intro hr; exact absurd rfl hr
  | some l =>
    intro _
    have hl := parses_ok s.data.toList lines t.groups t i _ l hok.1 (by omega) (unsetAll_ok _ _) hp
    have h1 := evat_fst s.data.toList lines (try_fst s.data.toList lines t.groups t hok.1 (Re.reps_err he)) hp (fun q hq => (hl q hq).1) _ _ _ _ (by omega) h ho
    have e : l.filter (fun q => decide (q.1 < i + (s.size + 1 - i))) = l := by
      rw [List.filter_eq_self]
      intro q hq
      have := (hl q hq).2.1
      simp; omega
    rw [e] at h1
    cases h1 with
    | nil => exact ⟨rfl, rfl, rfl⟩
    | hit h2 => injection h2 with h2; subst h2; exact ⟨rfl, rfl, rfl⟩
    | miss h2 _ => cases h2
theorem evfind_left {t : Re} {s : ByteArray} {lines : Bool} (he : t.err = 0) : ∀ (d i n m : Nat) (o : Out), i + d = s.size + 1 → EvFind s.data.toList lines t t.groups i d n o m → o ≠ .over → (leftR t s lines d i).2.2 ≠ 11 →
    o.lst = (leftR t s lines d i).1 ∧ o.isFound = (leftR t s lines d i).2.1 ∧ (leftR t s lines d i).2.2 = 0
  | 0, i, n, m, o, hd, h, ho, hr => by cases h; exact ⟨rfl, rfl, rfl⟩
  | d + 1, i, n, m, o, hd, h, ho, hr => by
    have hsl : s.data.toList.length = s.size := by rw [Array.length_toList]; rfl
    rw [leftR] at hr ⊢
    by_cases hb : (atR (parsesR t s i lines) i).2.1 = true ∨ (atR (parsesR t s i lines) i).2.2 ≠ 0
    · rw [if_pos hb] at hr ⊢
      cases h with
      | hit h _ => rw [hsl] at h; exact evat_head he (by omega) h ho hr
      | miss h hm =>
        rw [hsl] at h
        have h1 := evat_head he (by omega) h (by intro h; cases h) hr
        rcases hb with hb | hb
        · rw [hb] at h1; cases h1.2.1
        · exact absurd h1.2.2 hb
    · rw [if_neg hb] at hr ⊢
      have hb2 : (atR (parsesR t s i lines) i).2.2 = 0 := Classical.byContradiction fun h => hb (.inr h)
      cases h with
      | hit h hf =>
        rw [hsl] at h
        have h1 := evat_head he (by omega) h ho (by rw [hb2]; decide)
        cases o with
        | found y => exact absurd (.inl h1.2.1.symm) hb
        | fail => exact absurd rfl hf
        | over => exact absurd rfl ho
      | miss h hm => exact evfind_left he d (i + 1) _ _ o (by omega) hm ho hr
theorem finds_at {t : Re} {s : ByteArray} {at_ : Int} {lines : Bool} {B : Nat} {o : Out} {k x : Int} (h : Api t s at_ (fun _ => 1) lines B o k x) (hx : x ≠ 11) (hy : (atR (parsesR t s at_ lines) at_).2.2 ≠ 11) :
    o.lst = (atR (parsesR t s at_ lines) at_).1 ∧ o.isFound = (atR (parsesR t s at_ lines) at_).2.1 ∧ x = (atR (parsesR t s at_ lines) at_).2.2 := by
  rcases h with ⟨h0, rfl, rfl, rfl⟩ | ⟨h0, m, hm, h1, rfl, rfl⟩
  · have e : parsesR t s at_ lines = ([], chk t s at_) := by unfold parsesR; rw [if_pos h0]
    rw [e]
    exact ⟨rfl, rfl, rfl⟩
  · obtain ⟨he, ha1, ha2⟩ := chk_zero h0
    have hsl : s.data.toList.length = s.size := by rw [Array.length_toList]; rfl
    have ho : o ≠ .over := by rintro rfl; exact hx rfl
    have ha : ((at_.toNat : Nat) : Int) = at_ := by omega
    have hz : o.errno = 0 := by
      cases o with
      | over => exact absurd rfl ho
      | found l => rfl
      | fail => rfl
    rw [hz]
    rw [← ha] at hy ⊢
    have hh : ∀ {o' : Out} {m' : Nat}, EvAt s.data.toList lines t t.groups at_.toNat (s.data.toList.length + 1 - at_.toNat) B o' m' → o' ≠ .over → o'.lst = (atR (parsesR t s at_.toNat lines) at_.toNat).1 ∧ o'.isFound = (atR (parsesR t s at_.toNat lines) at_.toNat).2.1 ∧ (atR (parsesR t s at_.toNat lines) at_.toNat).2.2 = 0 := fun h ho => by
      rw [hsl] at h
      exact evat_head he (by omega) h ho hy
    cases h1 with
    | hit h _ => exact ⟨(hh h ho).1, (hh h ho).2.1, (hh h ho).2.2.symm⟩
    | miss h hr =>
      cases hr
      have h2 := hh h (by intro h; cases h)
      exact ⟨h2.1, h2.2.1, h2.2.2.symm⟩
theorem finds_left {t : Re} {s : ByteArray} {at_ : Int} {lines : Bool} {B : Nat} {o : Out} {k x : Int} (h : Api t s at_ (fun f => s.size + 1 - f) lines B o k x) (hx : x ≠ 11) (hy : (leftmostR t s at_ lines).2.2 ≠ 11) :
    o.lst = (leftmostR t s at_ lines).1 ∧ o.isFound = (leftmostR t s at_ lines).2.1 ∧ x = (leftmostR t s at_ lines).2.2 := by
  revert hy
  unfold leftmostR
  rcases h with ⟨h0, rfl, rfl, rfl⟩ | ⟨h0, m, hm, h1, rfl, rfl⟩
  · rw [if_pos h0]
    intro _
    exact ⟨rfl, rfl, rfl⟩
  · obtain ⟨he, ha1, ha2⟩ := chk_zero h0
    rw [if_neg (by simpa using h0)]
    intro hy
    have ho : o ≠ .over := by rintro rfl; exact hx rfl
    have hz : o.errno = 0 := by
      cases o with
      | over => exact absurd rfl ho
      | found l => rfl
      | fail => rfl
    rw [hz]
    have h2 := evfind_left he _ _ _ _ o (by show at_.toNat + (s.size + 1 - at_.toNat) = s.size + 1; omega) h1 ho hy
    exact ⟨h2.1, h2.2.1, h2.2.2.symm⟩
end Go.Proofs.Ythnpbopnpdlmnaa

/- From what the statement gives of an argument to the tree: what is read as data of the type Re is a tree in the memory. -/
namespace Go.Proofs.Ythnpbopnpdlmnaa
open Go.ChangeShapes Go.WideShapes Go.ChangeAt Go.RowKit
set_option linter.unusedVariables false

theorem laidOutP : laidOutB Try.prog = true := by kernel_rfl
theorem cells_re : Try.prog.cellsOf 28 = 9 := by kernel_rfl
theorem cells_cs : Try.prog.cellsOf 25 = 4 := by kernel_rfl
theorem cells_a4 : Try.prog.cellsOf 23 = 4 := by kernel_rfl
theorem cells_u64 : Try.prog.cellsOf 22 = 1 := by kernel_rfl
theorem cells_int : Try.prog.cellsOf 3 = 1 := by kernel_rfl
theorem cells_sl : Try.prog.cellsOf 26 = 1 := by kernel_rfl

section
variable {H : Type} {enc : TypeId × Value → H} {w : World} {sp : Nat → Bool} {hd : Bool}

theorem open_i64 {fuel : Nat} {cs : List Value} {x : DataW H × List MemPlace} (h : DataW.trod enc Try.prog w 0 sp hd fuel 3 cs = some x) : ∃ n, cs = [.int .i64 n] ∧ I64 n := by
  obtain ⟨n, rfl, rfl, hw⟩ := DataW.trod_int Try.underlying3 h
  refine ⟨n, rfl, ?_⟩
  have e1 : IntKind.i64.min = -9223372036854775808 := rfl
  have e2 : IntKind.i64.max = 9223372036854775807 := rfl
  simpa [Lit.wf, e1, e2, I64] using hw
theorem open_u64 {fuel : Nat} {cs : List Value} {x : DataW H × List MemPlace} (h : DataW.trod enc Try.prog w 0 sp hd fuel 22 cs = some x) : ∃ n : Nat, cs = [.int .u64 n] ∧ W64 n := by
  obtain ⟨n, rfl, rfl, hw⟩ := DataW.trod_int Try.underlying22 h
  have e1 : IntKind.u64.min = 0 := rfl
  have e2 : IntKind.u64.max = 18446744073709551615 := rfl
  have hw2 : 0 ≤ n ∧ n ≤ 18446744073709551615 := by simpa [Lit.wf, e1, e2] using hw
  refine ⟨n.toNat, by rw [Int.toNat_of_nonneg hw2.1], by unfold W64; omega⟩
theorem open_cs {fuel : Nat} {c0 c1 c2 c3 : Value} {x : DataW H × List MemPlace} (h : DataW.trod enc Try.prog w 0 sp hd fuel 25 [c0, c1, c2, c3] = some x) : ∃ s : Cs, s.wf ∧ [c0, c1, c2, c3] = s.cells := by
  obtain ⟨ys, n, _, rfl, hl, hlen, hf⟩ := DataW.trod_struct Try.underlying25 h
  match ys, hlen with
  | [y0], _ =>
    have h0 : DataW.trod enc Try.prog w 0 sp hd n 23 (([c0, c1, c2, c3].drop 0).take (Try.prog.cellsOf 23)) = [y0][0]? := hf 0 _ rfl
    rw [cells_a4] at h0
    simp at h0
    obtain ⟨zs, m, _, rfl, hl2, hlen2, hf2⟩ := DataW.trod_array Try.underlying23 h0
    match zs, hlen2 with
    | [z0, z1, z2, z3], _ =>
      have g0 := hf2 0 (by omega)
      have g1 := hf2 1 (by omega)
      have g2 := hf2 2 (by omega)
      have g3 := hf2 3 (by omega)
      simp only [cells_u64] at g0 g1 g2 g3
      simp at g0 g1 g2 g3
      obtain ⟨a, ha, wa⟩ := open_u64 g0
      obtain ⟨b, hb, wb⟩ := open_u64 g1
      obtain ⟨c, hc, wc⟩ := open_u64 g2
      obtain ⟨d, hd, wd⟩ := open_u64 g3
      injection ha with ha
      injection hb with hb
      injection hc with hc
      injection hd with hd
      subst ha hb hc hd
      exact ⟨⟨a, b, c, d⟩, ⟨wa, wb, wc, wd⟩, rfl⟩

theorem open_kids (a : Addr) : ∀ (elems : List (DataW H × List MemPlace)) (k : Nat), (∀ (i : Nat) (x : DataW H × List MemPlace), elems[i]? = some x → ∃ (t : Re) (cs : List Value), w.cells? 0 (a.add ((k + i) * 9)) 9 = some cs ∧ t.In w cs ∧ t.size ≤ Rows.uptoBulk x.1) → (k = 0 ∨ a.spot = none) →
    ∃ xs : List Re, xs.length = elems.length ∧ Re.AllIn w xs (some a) (k * 9) ∧ Re.sizes xs ≤ Rows.uptoBulkAll (elems.map (·.1))
  | [], k, _, _ => ⟨[], rfl, by simp [Re.AllIn], by simp [Re.sizes, Re.counts, Rows.uptoBulkAll]⟩
  | x :: elems, k, h, hs => by
    obtain ⟨t, cs, hc, hin, hsz⟩ := h 0 x rfl
    obtain ⟨_, hlen, hcell⟩ := World.cells?_some hc
    have hsp : a.spot = none := by
      rcases hs with hs | hs
      · subst hs
        have h0 := hcell 0 (by omega)
        have hx : cs[0]? = some cs[0] := List.getElem?_eq_getElem (by omega)
        rw [hx] at h0
        simpa [Addr.add] using World.cell?_spot h0
      · exact hs
    obtain ⟨xs, hx1, hx2, hx3⟩ := open_kids a elems (k + 1) (fun i y hy => by
      have := h (i + 1) y (by simpa using hy)
      rwa [show k + 1 + i = k + (i + 1) by omega]) (.inr hsp)
    obtain ⟨b, o, spt⟩ := a
    simp only at hsp
    subst hsp
    refine ⟨t :: xs, by simp [hx1], ?_, ?_⟩
    · rw [Re.AllIn]
      refine ⟨⟨b, o, cs, rfl, fun j v hj => ?_, hin⟩, by rw [show k * 9 + 9 = (k + 1) * 9 by omega]; exact hx2⟩
      have hj9 : j < 9 := by
        have := (List.getElem?_eq_some_iff.1 hj).1
        omega
      have := hcell j hj9
      rw [add_plain, Addr.add_lit] at this
      rw [← hj, ← this]
      congr 2
    · have : Re.sizes (t :: xs) = t.size + Re.sizes xs := by simp [Re.sizes, Re.counts, Re.size]
      rw [this]
      simp only [List.map_cons, Rows.uptoBulkAll]
      omega

set_option maxRecDepth 100000 in
theorem open_re : ∀ (fuel : Nat) (cs : List Value) (x : DataW H × List MemPlace), DataW.trod enc Try.prog w 0 sp hd fuel 28 cs = some x → ∃ t : Re, t.In w cs ∧ t.size ≤ Rows.uptoBulk x.1 := by
  intro fuel
  induction fuel using Nat.strongRecOn with
  | _ fuel ih =>
    intro cs x h
    obtain ⟨ys, n, hfu, rfl, hl, hlen, hf⟩ := DataW.trod_struct Try.underlying28 h
    rw [cells_re] at hl
    match cs, hl with
    | [c0, c1, c2, c3, c4, c5, c6, c7, c8], _ =>
    match ys, hlen with
    | [y0, y1, y2, y3, y4, y5], _ =>
      have h0 : DataW.trod enc Try.prog w 0 sp hd n 3 (([c0, c1, c2, c3, c4, c5, c6, c7, c8].drop 0).take (Try.prog.cellsOf 3)) = [y0, y1, y2, y3, y4, y5][0]? := hf 0 _ rfl
      rw [cells_int] at h0
      simp at h0
      have h1 : DataW.trod enc Try.prog w 0 sp hd n 25 (([c0, c1, c2, c3, c4, c5, c6, c7, c8].drop 1).take (Try.prog.cellsOf 25)) = [y0, y1, y2, y3, y4, y5][1]? := hf 1 _ rfl
      rw [cells_cs] at h1
      simp at h1
      have h2 : DataW.trod enc Try.prog w 0 sp hd n 3 (([c0, c1, c2, c3, c4, c5, c6, c7, c8].drop 5).take (Try.prog.cellsOf 3)) = [y0, y1, y2, y3, y4, y5][2]? := hf 2 _ rfl
      rw [cells_int] at h2
      simp at h2
      have h3 : DataW.trod enc Try.prog w 0 sp hd n 3 (([c0, c1, c2, c3, c4, c5, c6, c7, c8].drop 6).take (Try.prog.cellsOf 3)) = [y0, y1, y2, y3, y4, y5][3]? := hf 3 _ rfl
      rw [cells_int] at h3
      simp at h3
      have h4 : DataW.trod enc Try.prog w 0 sp hd n 3 (([c0, c1, c2, c3, c4, c5, c6, c7, c8].drop 7).take (Try.prog.cellsOf 3)) = [y0, y1, y2, y3, y4, y5][4]? := hf 4 _ rfl
      rw [cells_int] at h4
      simp at h4
      have h5 : DataW.trod enc Try.prog w 0 sp hd n 26 (([c0, c1, c2, c3, c4, c5, c6, c7, c8].drop 8).take (Try.prog.cellsOf 26)) = [y0, y1, y2, y3, y4, y5][5]? := hf 5 _ rfl
      rw [cells_sl] at h5
      simp at h5
      obtain ⟨op, e0, w0⟩ := open_i64 h0
      obtain ⟨s, ws, es⟩ := open_cs h1
      obtain ⟨lo, e2, w2⟩ := open_i64 h2
      obtain ⟨hi, e3, w3⟩ := open_i64 h3
      obtain ⟨gr, e4, w4⟩ := open_i64 h4
      injection e0 with e0
      injection e2 with e2
      injection e3 with e3
      injection e4 with e4
      subst e0 e2 e3 e4
      unfold Cs.cells at es
      injection es with e10 es
      injection es with e11 es
      injection es with e12 es
      injection es with e13 es
      subst e10 e11 e12 e13
      have hwf : (⟨op, s, lo, hi, gr⟩ : Pay).wf := ⟨w0, ws, w2, w3, w4⟩
      rcases DataW.trod_slice Try.underlying26 h5 with ⟨hcs, hx⟩ | ⟨a, len, cap, elems, rest, m, hm, hcs, hx, hb, hle, hcm, hel, hall, _, _⟩
      · injection hcs with hcs
        subst hcs
        refine ⟨.mk ⟨op, s, lo, hi, gr⟩ [], ?_, ?_⟩
        · rw [Re.In]
          exact ⟨none, 0, rfl, hwf, Nat.le_refl _, Nat.zero_le _, fun _ => rfl, by simp [Re.AllIn]⟩
        · simp [Re.size_mk, Re.sizes, Re.counts, Rows.uptoBulk]
      · injection hcs with hcs
        subst hcs
        rw [cells_re] at hall
        obtain ⟨xs, k1, k2, k3⟩ := open_kids (w := w) a elems 0 (fun i y hy => by
          have hil : i < len := by rw [← hel]; exact (List.getElem?_eq_some_iff.1 hy).1
          have hh := hall i hil
          rw [hy] at hh
          obtain ⟨cs', g1, g2⟩ := Option.bind_eq_some_iff.1 hh
          obtain ⟨t, g3, g4⟩ := ih m (by omega) cs' y g2
          exact ⟨t, cs', by rw [Nat.zero_add]; exact g1, g3, g4⟩) (.inl rfl)
        refine ⟨.mk ⟨op, s, lo, hi, gr⟩ xs, ?_, ?_⟩
        · rw [Re.In]
          refine ⟨some a, cap, ?_, hwf, by rw [k1, hel]; exact hle, hcm, (fun e => by cases e), by simpa using k2⟩
          rw [k1, hel]
          rfl
        · rw [Re.size_mk]
          simp only [Rows.uptoBulk, Rows.uptoBulkAll, hx, List.map_cons, List.map_nil]
          omega

/-- An argument of the type Re: its value is a tree. -/
theorem open_arg {v : Value} {d : DataW H} {ps : List MemPlace} (h : DataW.Trod enc Try.prog w 0 sp hd 28 v d ps) : ∃ (t : Re) (cs : List Value), v = .agg cs.toArray ∧ t.In w cs ∧ t.size ≤ Rows.uptoBulk d := by
  obtain ⟨fuel, hf⟩ := h
  obtain ⟨t, h1, h2⟩ := open_re fuel _ _ hf
  refine ⟨t, v.cells.toList, ?_, h1, h2⟩
  have h9 := h1.nine
  cases v <;> simp [Value.cells] at h9 ⊢
end
end Go.Proofs.Ythnpbopnpdlmnaa

/- From what the statement gives of an argument to a search: a string, an offset, a flag, a budget. -/
namespace Go.Proofs.Ythnpbopnpdlmnaa
open Go.ChangeShapes Go.WideShapes Go.ChangeAt Go.RowKit
set_option linter.unusedVariables false
theorem ownKnobR : ownKnob Try.prog.godebug = none := by kernel_rfl
section
variable {H : Type} {enc : TypeId × Value → H} {w : World} {sp : Nat → Bool} {hd : Bool}
/-- An argument of the type Try. -/
theorem open_try {v : Value} {d : DataW H} {ps : List MemPlace} (h : DataW.Trod enc Try.prog w 0 sp hd 50 v d ps) : ∃ (s : ByteArray) (x y : Int) (b : Bool), v = .agg #[.string s, .int .i64 x, .bool b, .int .i64 y] ∧ s.size ≤ Rows.uptoBulk d ∧ I64 x ∧ I64 y := by
  obtain ⟨fuel, hf⟩ := h
  have hcells : Try.prog.cellsOf 50 = 4 := by kernel_rfl
  have hstr : Try.prog.cellsOf 9 = 1 := by kernel_rfl
  have hint : Try.prog.cellsOf 3 = 1 := by kernel_rfl
  have hbool : Try.prog.cellsOf 4 = 1 := by kernel_rfl
  obtain ⟨ys, n, hfu, hd0, hl, hlen, hf⟩ := DataW.trod_struct Try.underlying50 hf
  rw [hcells] at hl
  match hc : v.cells.toList, hl with
  | [c0, c1, c2, c3], _ =>
  rw [hc] at hf
  match ys, hlen with
  | [y0, y1, y2, y3], _ =>
    have h0 : DataW.trod enc Try.prog w 0 sp hd n 9 (([c0, c1, c2, c3].drop 0).take (Try.prog.cellsOf 9)) = [y0, y1, y2, y3][0]? := hf 0 _ rfl
    have h1 : DataW.trod enc Try.prog w 0 sp hd n 3 (([c0, c1, c2, c3].drop 1).take (Try.prog.cellsOf 3)) = [y0, y1, y2, y3][1]? := hf 1 _ rfl
    have h2 : DataW.trod enc Try.prog w 0 sp hd n 4 (([c0, c1, c2, c3].drop 2).take (Try.prog.cellsOf 4)) = [y0, y1, y2, y3][2]? := hf 2 _ rfl
    have h3 : DataW.trod enc Try.prog w 0 sp hd n 3 (([c0, c1, c2, c3].drop 3).take (Try.prog.cellsOf 3)) = [y0, y1, y2, y3][3]? := hf 3 _ rfl
    rw [hstr] at h0
    rw [hint] at h1 h3
    rw [hbool] at h2
    simp at h0 h1 h2 h3
    obtain ⟨s, e0, hx, -⟩ := DataW.trod_string Try.underlying9 h0
    obtain ⟨x, e1, w1⟩ := open_i64 h1
    obtain ⟨b, e2, -⟩ := DataW.trod_bool Try.underlying4 h2
    obtain ⟨y, e3, w3⟩ := open_i64 h3
    injection e0 with e0
    injection e1 with e1
    injection e2 with e2
    injection e3 with e3
    subst e0 e1 e2 e3
    refine ⟨s, x, y, b, ?_, ?_, w1, w3⟩
    · cases v <;> simp [Value.cells] at hc ⊢
      rename_i arr
      obtain ⟨l⟩ := arr
      simpa using hc
    · simp only [Prod.mk.injEq] at hd0
      rw [hd0.1]
      simp only [Rows.uptoBulk, Rows.uptoBulkAll, List.map_cons]
      rw [hx]
      simp only [Rows.uptoBulk]
      have : s.data.toList.length = s.size := by rw [Array.length_toList]; rfl
      omega
end
end Go.Proofs.Ythnpbopnpdlmnaa
