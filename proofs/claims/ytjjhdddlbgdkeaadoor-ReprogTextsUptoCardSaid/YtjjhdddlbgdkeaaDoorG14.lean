/- The program's learn: the walk. -/
import Derived.Test.YtjjhdddlbgdkeaaDoorG13
import Derived.Test.YtjjhdddlbgdkeaaDoorG04
import Derived.Test.YtjjhdddlbgdkeaaDoorG07
import Derived.Deep.DeepCutAuto
import Derived.Deep.CutBlock
import Derived.RegionTactic
import Derived.ChangeAlike
import Derived.BigRegion
import Derived.Deep.QuietTactic
import Derived.BigQuiet
import Derived.Test.YtjjhdddlbgdkeaaDoorG05
namespace Go.Proofs.YtjjhdddlbgdkeaaDoor
open Go.RowKit
attribute [local go_sem] gives givesUpon

-- def BOX := .cells #[.int .i64 p.op, .int .u64 p.set.a, .int .u64 p.set.b, .int .u64 p.set.c, .int .u64 p.set.d, .int .i64 p.lo, .int .i64 p.hi, .int .i64 p.gr, .slice ad xs.length cap] 53
-- def BL := [.int .i64 p.op, .int .u64 p.set.a, .int .u64 p.set.b, .int .u64 p.set.c, .int .u64 p.set.d, .int .i64 p.lo, .int .i64 p.hi, .int .i64 p.gr, .slice ad xs.length cap]
-- def C0 := [.bool false, .int .i64 0, .int .i64 0, .int .u64 0, .int .u64 0, .int .u64 0, .int .u64 0]


def encF (f : Facts) : Value := .agg f.cells.toArray
/-- Block M is the map of what the groups are known to be. -/
def GMap (w : World) (M : Nat) (g : Int → Option Facts) : Prop := IMap w M (fun k => (g k).map encF)

theorem GMap.alloc {w : World} {M : Nat} {g : Int → Option Facts} (h : GMap w M g) (o : Obj) : GMap (w.alloc o) M g := IMap.alloc h o
theorem GMap.lt {w : World} {M : Nat} {g : Int → Option Facts} (h : GMap w M g) : M < w.heap.size := IMap.lt h
theorem flatF_len (l : List Facts) : (l.flatMap Facts.cells).length = l.length * 7 := by
  induction l with
  | nil => rfl
  | cons f l ih => simp [List.flatMap_cons, ih, Facts.cells]; omega
theorem Re.typed_kid {p : Pay} {xs : List Re} (h : (Re.mk p xs).typed = true) (k : Nat) (hk : k < xs.length) : xs[k].typed = true := by
  rw [Re.typed] at h
  cases h2 : xs[k].typed with
  | true => rfl
  | false => have := Re.typeds_get xs k xs[k] (by simp [hk]) h2; simp [this] at h

theorem grown_block {w w' : World} {v : Value} {base : Nat} (h : w.grownBy w' v.ownBlock) (hv : ∀ g, v.ownBlock = some g → base ≤ g) (k : Nat) (h1 : k < base) (h2 : k < w.heap.size) : w'.heap[k]? = w.heap[k]? :=
  h.block k h2 (fun e => by have := hv k e.symm; omega)

theorem But.set7 {S : List Nat} {w x : World} {B : Nat} (h : But S w x) (hB : w.heap.size ≤ B) (a' b' c' d' e' f' g' : Value) : But S w (((((((x.setCell ⟨B, 0, none⟩ a').setCell ⟨B, 1, none⟩ b').setCell ⟨B, 2, none⟩ c').setCell ⟨B, 3, none⟩ d').setCell ⟨B, 4, none⟩ e').setCell ⟨B, 5, none⟩ f').setCell ⟨B, 6, none⟩ g') :=
  ((((((h.setCell (.inr hB) _).setCell (.inr hB) _).setCell (.inr hB) _).setCell (.inr hB) _).setCell (.inr hB) _).setCell (.inr hB) _).setCell (.inr hB) _
theorem IMap.other7 {w : World} {M B : Nat} {f : Int → Option Value} (h : IMap w M f) (hn : M ≠ B) (a' b' c' d' e' f' g' : Value) : IMap (((((((w.setCell ⟨B, 0, none⟩ a').setCell ⟨B, 1, none⟩ b').setCell ⟨B, 2, none⟩ c').setCell ⟨B, 3, none⟩ d').setCell ⟨B, 4, none⟩ e').setCell ⟨B, 5, none⟩ f').setCell ⟨B, 6, none⟩ g') M f :=
  ((((((h.other hn _ _).other hn _ _).other hn _ _).other hn _ _).other hn _ _).other hn _ _).other hn _ _
theorem flatF_get (l : List Facts) : ∀ (k : Nat) (f : Facts) (i : Nat), l[k]? = some f → i < 7 → (l.flatMap Facts.cells)[k * 7 + i]? = f.cells[i]? := by
  induction l with
  | nil => intro k f i h; simp at h
  | cons a l ih =>
    intro k f i h hi
    cases k with
    | zero =>
      simp at h
      subst h
      rw [List.flatMap_cons, Nat.zero_mul, Nat.zero_add, List.getElem?_append_left (by simp [Facts.cells]; omega)]
    | succ k =>
      rw [List.flatMap_cons, List.getElem?_append_right (by simp [Facts.cells]; omega)]
      have : (k + 1) * 7 + i - a.cells.length = k * 7 + i := by simp [Facts.cells]; omega
      rw [this]
      exact ih k f i (by simpa using h) hi


theorem CellsAt.c7 {w : World} {b o : Nat} {F : Facts} (h : CellsAt w b o F.cells) : (w.cell? ⟨b, o, none⟩ = some (.bool F.null) ∧ w.cell? ⟨b, o + 1, none⟩ = some (.int .i64 F.least) ∧ w.cell? ⟨b, o + 2, none⟩ = some (.int .i64 F.most) ∧ w.cell? ⟨b, o + 3, none⟩ = some (.int .u64 F.first.a) ∧ w.cell? ⟨b, o + 4, none⟩ = some (.int .u64 F.first.b) ∧ w.cell? ⟨b, o + 5, none⟩ = some (.int .u64 F.first.c) ∧ w.cell? ⟨b, o + 6, none⟩ = some (.int .u64 F.first.d)) :=
  ⟨h 0 _ rfl, h 1 _ rfl, h 2 _ rfl, h 3 _ rfl, h 4 _ rfl, h 5 _ rfl, h 6 _ rfl⟩
theorem Re.learns_two {p : Pay} {xs : List Re} (h : (Re.mk p xs).typed = true) (hop : p.op = 3 ∨ p.op = 4) (g : Int → Option Facts) : ∃ F l, (Re.learns xs g).1 = F :: l ∧ 1 ≤ l.length := by
  have hl : 2 ≤ xs.length := by
    rw [Re.typed] at h
    simp only [Bool.and_eq_true] at h
    have h1 := h.1
    unfold Pay.shaped at h1
    rcases hop with o | o <;> simp [o] at h1 <;> omega
  have := Re.learns_len xs g
  match hx : (Re.learns xs g).1 with
  | F :: l => exact ⟨F, l, rfl, by rw [hx] at this; simp at this; omega⟩
  | [] => rw [hx] at this; simp at this; omega
theorem Re.learns_one {p : Pay} {xs : List Re} (h : (Re.mk p xs).typed = true) (hop : p.op = 5 ∨ p.op = 6) (g : Int → Option Facts) : ∃ F, (Re.learns xs g).1 = [F] := by
  have hl : xs.length = 1 := by
    rw [Re.typed] at h
    simp only [Bool.and_eq_true] at h
    have h1 := h.1
    unfold Pay.shaped at h1
    rcases hop with o | o <;> simp [o] at h1 <;> omega
  have := Re.learns_len xs g
  match hx : (Re.learns xs g).1 with
  | [F] => exact ⟨F, rfl⟩
  | [] => rw [hx] at this; simp at this; omega
  | _ :: _ :: _ => rw [hx] at this; simp at this; omega

theorem CellsAt.but {S : List Nat} {w w' : World} {b o : Nat} {cs : List Value} (h : CellsAt w b o cs) (hb : But S w w') (hS : b ∉ S) : CellsAt w' b o cs := by
  intro j v hj
  have hn : cs ≠ [] := by rintro rfl; simp at hj
  rw [World.cell?_of_block (hb.block b (h.block hn) hS)]
  exact h j v hj
theorem But.of_below' {S : List Nat} {w w' : World} (h : Below w.heap.size w w') : But S w w' := But.of_below h

theorem Row.other4' {w : World} {B B' : Nat} {cs : List Value} {T : TypeId} (h : Row w B cs T) (hn : B ≠ B') (a' b' c' d' : Value) : Row ((((w.setCell ⟨B', 3, none⟩ a').setCell ⟨B', 4, none⟩ b').setCell ⟨B', 5, none⟩ c').setCell ⟨B', 6, none⟩ d') B cs T :=
  (((h.other hn _ _).other hn _ _).other hn _ _).other hn _ _



theorem But.set7m {S : List Nat} {w x : World} {B : Nat} (h : But S w x) (hB : B ∈ S) (a' b' c' d' e' f' g' : Value) : But S w (((((((x.setCell ⟨B, 0, none⟩ a').setCell ⟨B, 1, none⟩ b').setCell ⟨B, 2, none⟩ c').setCell ⟨B, 3, none⟩ d').setCell ⟨B, 4, none⟩ e').setCell ⟨B, 5, none⟩ f').setCell ⟨B, 6, none⟩ g') :=
  ((((((h.setCell (.inl hB) _).setCell (.inl hB) _).setCell (.inl hB) _).setCell (.inl hB) _).setCell (.inl hB) _).setCell (.inl hB) _).setCell (.inl hB) _

end Go.Proofs.YtjjhdddlbgdkeaaDoor

/- The check of a tree, the program's and the reference's: both return the same error. -/
namespace Go.Proofs.YtjjhdddlbgdkeaaDoor
open Go.RowKit

set_option maxHeartbeats 2000000 in
theorem Check_any (t : Re) (w : World) (cs : List Value) (hIn : t.In w cs) (hsz : t.size ≤ 1048576) :
    Calls Tryd.prog 29 #[.agg cs.toArray] w fun e w' => e = .returned (.int .i64 t.err) ∧ Below w.heap.size w w' := by
  cases t with
  | mk p xs =>
    have hIn' := hIn
    rw [Re.In] at hIn
    obtain ⟨ad, cap, rfl, _⟩ := hIn
    simp only [Pay.cells]
    have HI := hid hIn'
    have HE := hid (Re.err_check (.mk p xs))
    have hnod := Re.check_nodes (.mk p xs) Ck.init
    have hgrp := Re.check_groups (.mk p xs) Ck.init
    have hlev := Re.check_levels (.mk p xs) Ck.init
    have hgl := Re.count_le (· == 6) (.mk p xs)
    have i1 : Ck.init.nodes = 0 := rfl
    have i2 : Ck.init.groups = 0 := rfl
    rw [i1] at hnod
    rw [i2] at hgrp
    have b1 : (Re.check (.mk p xs) Ck.init).1.nodes ≤ 1048576 := by omega
    have b2 : (Re.check (.mk p xs) Ck.init).1.groups ≤ 1048576 := by simp only [Re.groups] at *; omega
    have b3 : (Re.check (.mk p xs) Ck.init).2 ≤ 1048576 := by omega
    have hmm := @run_makeMap Tryd.prog
    clear hIn' hnod hgrp hlev hgl i1 i2
    go_enter Tryd.func29, Tryd.ntmps29
    go_wp2_with fail
    refine (node_any (w.heap.size + 2) (w.heap.size + 1) w (by omega) (by omega) (by omega) (.mk p xs) _ _ Ck.init HI.out ?_ ⟨?_, ?_⟩ ?_ ?_).mono ?_
    · exact ((((Below.refl _ w).alloc (Nat.le_refl _) _).alloc (by simp) _).alloc (by simp; omega) _)
    · exact Row.new (cs := [_, _, _, _, _, _, _]) (by simp)
    · have := (IMap.new (w := w.alloc (.cells #[.int .i64 p.op, .int .u64 p.set.a, .int .u64 p.set.b, .int .u64 p.set.c, .int .u64 p.set.d, .int .i64 p.lo, .int .i64 p.hi, .int .i64 p.gr, .slice ad xs.length cap] 53)) (M := w.heap.size + 1) (by simp)).alloc (.cells #[.bool false, .bool false, .bool false, .int .i64 0, .int .i64 0, .slice none 0 0, .map (some (w.heap.size + 1))] 78)
      exact this
    · show 0 + _ ≤ _; omega
    · exact Nat.le_refl _
    rintro e w1 ⟨rfl, hb, hck⟩
    have hbw : Hid (Below w.heap.size w w1) := ((((Below.refl _ w).alloc (Nat.le_refl _) _).alloc (by simp) _).alloc (by simp; omega) _).trans (hb.below (by simp; omega) (fun k hk => by simp at hk; omega))
    have q := hck.1.c7
    have hR := hck.1.lt
    generalize hlv : (Re.check (.mk p xs) Ck.init).2 = lv at *
    generalize hcc : (Re.check (.mk p xs) Ck.init).1 = c1 at *
    clear hb hck hlv hcc hmm
    have HER := hid (Ck.err.eq_1 c1 lv)
    cases hs : c1.shape
    · rw [hs] at q HER
      clear hs
      cases hs : c1.bounds
      · rw [hs] at q HER
        clear hs
        cases hs : c1.name
        · rw [hs] at q HER
          clear hs
          go_wp2_with fail
          all_goals
            go_ret
            refine ⟨ret_int ?_, hbw.out⟩
            rw [← HE.out, HER.out]
            simp
            omega
        · rw [hs] at q HER
          clear hs
          go_wp2_with fail
          go_ret
          exact ⟨ret_int (by rw [← HE.out, HER.out]; simp), hbw.out⟩
      · rw [hs] at q HER
        clear hs
        go_wp2_with fail
        go_ret
        exact ⟨ret_int (by rw [← HE.out, HER.out]; simp), hbw.out⟩
    · rw [hs] at q HER
      clear hs
      go_wp2_with fail
      go_ret
      exact ⟨ret_int (by rw [← HE.out, HER.out]; simp), hbw.out⟩
end Go.Proofs.YtjjhdddlbgdkeaaDoor

/- What the program knows of a tree: known, Nullable, Length, First. -/
namespace Go.Proofs.YtjjhdddlbgdkeaaDoor
open Go.RowKit
attribute [local go_sem] gives givesUpon

-- def BOX := .cells #[.int .i64 p.op, .int .u64 p.set.a, .int .u64 p.set.b, .int .u64 p.set.c, .int .u64 p.set.d, .int .i64 p.lo, .int .i64 p.hi, .int .i64 p.gr, .slice ad xs.length cap] 53
-- def BL := [.int .i64 p.op, .int .u64 p.set.a, .int .u64 p.set.b, .int .u64 p.set.c, .int .u64 p.set.d, .int .i64 p.lo, .int .i64 p.hi, .int .i64 p.gr, .slice ad xs.length cap]
-- def C0 := [.bool false, .int .i64 0, .int .i64 0, .int .u64 0, .int .u64 0, .int .u64 0, .int .u64 0]
-- def Z4 := [.int .u64 0, .int .u64 0, .int .u64 0, .int .u64 0]
-- def W2C := ((w.alloc (.cells #[.int .i64 p.op, .int .u64 p.set.a, .int .u64 p.set.b, .int .u64 p.set.c, .int .u64 p.set.d, .int .i64 p.lo, .int .i64 p.hi, .int .i64 p.gr, .slice ad xs.length cap] 53)).alloc (.cells #[.int .u64 0, .int .u64 0, .int .u64 0, .int .u64 0] 33))

theorem Pay.reps_of {p : Pay} (h : ¬ (p.op = 5 ∧ p.badRep = true)) (h5 : p.op = 5) : (-1 ≤ p.lo ∧ p.lo ≤ 64) ∧ -1 ≤ p.hi ∧ p.hi ≤ 64 := by
  have hb : p.badRep = false := by
    cases hx : p.badRep with
    | true => exact absurd ⟨h5, hx⟩ h
    | false => rfl
  unfold Pay.badRep at hb
  simp at hb
  omega
mutual
theorem Re.ranged_reps : ∀ (t : Re) (b : Nat), (t.ranged b).isSome = true → t.reps = true
  | .mk p xs, b, h => by
    rw [Re.ranged] at h
    rw [Re.reps]
    split at h
    · cases h
    · rename_i h5
      have e1 := decide_eq_true (p := p.op = 5 → (-1 ≤ p.lo ∧ p.lo ≤ 64) ∧ -1 ≤ p.hi ∧ p.hi ≤ 64) (fun e => Pay.reps_of h5 e)
      rw [e1]
      split at h
      · split at h
        · rw [Re.rangeds_reps xs _ h]; rfl
        · cases h
      · rw [Re.rangeds_reps xs _ h]; rfl
theorem Re.rangeds_reps : ∀ (xs : List Re) (b : Nat), (Re.rangeds xs b).isSome = true → Re.repss xs = true
  | [], b, h => by rw [Re.repss]
  | t :: ts, b, h => by
    rw [Re.rangeds] at h
    rw [Re.repss]
    cases hx : t.ranged b with
    | none => rw [hx] at h; cases h
    | some n =>
      rw [hx] at h
      rw [Re.ranged_reps t b (by rw [hx]; rfl), Re.rangeds_reps ts n h]
      rfl
end
theorem Re.err_zero {t : Re} (h : t.err = 0) : t.typed = true ∧ t.reps = true ∧ (t.ranged 0).isSome = true ∧ (t.named []).isSome = true ∧ t.size ≤ 600 ∧ t.groups ≤ 9 ∧ t.levels ≤ 32 := by
  unfold Re.err at h
  cases h1 : t.typed with
  | false => simp [h1] at h
  | true =>
    cases h2 : t.ranged 0 with
    | none => simp [h1, h2] at h
    | some n =>
      cases h3 : t.named [] with
      | none => simp [h1, h2, h3] at h
      | some l =>
        simp only [h1, h2, h3] at h
        refine ⟨rfl, Re.ranged_reps t 0 (by rw [h2]; rfl), rfl, rfl, ?_⟩
        by_cases hx : 600 < t.size ∨ 9 < t.groups ∨ 32 < t.levels
        · simp [hx] at h
        · omega

/-- What is known of a tree: nothing if it is not valid. -/
def Re.facts (t : Re) : Facts := if t.err = 0 then (t.learn (fun _ => none)).1 else Facts.zero
theorem Re.facts_zero {t : Re} (h : ¬ t.err = 0) : t.facts = Facts.zero := by unfold Re.facts; rw [if_neg h]
theorem Re.facts_some {t : Re} (h : t.err = 0) : t.facts = (t.learn (fun _ => none)).1 := by unfold Re.facts; rw [if_pos h]


/-- Two results: a struct in a block of the call's own, and a slot. -/
theorem ret_row2 {P : Program} {fn : Func} {R : Ending → World → Prop} {a : Act} {w : World} (p : Tmp) (ty : TypeId) (q : Tmp) (h : fn.results = #[.cell p ty, .tmp q]) (b : Nat) (hp : a.tmps.getD p undef = .pointer (some ⟨b, 0, none⟩)) (cs : List Value) (hc : CellsAt w b 0 cs) (d : TypeDesc)
    (hu : P.underlying ty = some d) (hd : (match d with | .struct _ | .array _ _ => true | _ => false) = true) (hi : (P.info? ty).map (·.size) = some cs.length) (hdf : a.defers = []) (hR : R (.returned (.tuple #[.agg cs.toArray, a.tmps.getD q undef])) w) : bodyPost P fn R .ret a w := by
  refine bodyPost_ret (v := .tuple #[.agg cs.toArray, a.tmps.getD q undef]) ?_ hdf hR
  have hl : (loadCells ⟨b, 0, none⟩ cs.length).run P w = .ok cs.toArray w := run_loadCells_list (P := P) w ⟨b, 0, none⟩ cs (fun j v hv => by rw [Addr.add_lit]; exact hc j v hv)
  have hrun : (loadVar ty ⟨b, 0, none⟩).run P w = .ok (.agg cs.toArray) w := by
    cases hq : P.info? ty with
    | none => simp [hq] at hi
    | some i =>
      have hs : i.size = cs.length := by simpa [hq] using hi
      have hagg : (isAgg ty).run P w = .ok true w := by
        unfold isAgg
        rw [Sem.run_bind, run_underlying hu w]
        cases d <;> simp_all
      simp [loadVar, Sem.run_bind, hagg, sizeOf, typeInfo, hq, hs, hl]
  have hp' : a.tmps[p]?.getD undef = .pointer (some ⟨b, 0, none⟩) := by simpa using hp
  simp [results, h, hp', asAddr, hrun]



end Go.Proofs.YtjjhdddlbgdkeaaDoor

/- What stands for counted repetitions: the plain law. No program. -/
namespace Go.Proofs.YtjjhdddlbgdkeaaDoor
open Go.RowKit

def Pay.of (op : Int) : Pay := ⟨op, Cs.none, 0, 0, 0⟩
def Pay.ofRep (lo hi : Int) : Pay := ⟨5, Cs.none, lo, hi, 0⟩
theorem Pay.of_wf {op : Int} (h : I64 op) : (Pay.of op).wf := ⟨h, Cs.none_wf, ⟨show (-9223372036854775808 : Int) ≤ 0 by decide, show (0 : Int) ≤ 9223372036854775807 by decide⟩, ⟨show (-9223372036854775808 : Int) ≤ 0 by decide, show (0 : Int) ≤ 9223372036854775807 by decide⟩, ⟨show (-9223372036854775808 : Int) ≤ 0 by decide, show (0 : Int) ≤ 9223372036854775807 by decide⟩⟩
theorem Pay.ofRep_wf {lo hi : Int} (h : I64 lo) (h' : I64 hi) : (Pay.ofRep lo hi).wf := ⟨⟨show (-9223372036854775808 : Int) ≤ 5 by decide, show (5 : Int) ≤ 9223372036854775807 by decide⟩, Cs.none_wf, h, h', ⟨show (-9223372036854775808 : Int) ≤ 0 by decide, show (0 : Int) ≤ 9223372036854775807 by decide⟩⟩
def Re.rept (x : Re) (lo hi : Int) : Re := .mk (Pay.ofRep lo hi) [x]
/-- What stands for a repetition of x. -/
def Re.counted (x : Re) (lo hi : Int) : Re :=
  if (lo = 0 ∧ (hi = 1 ∨ hi = -1)) ∨ (lo = 1 ∧ hi = -1) then x.rept lo hi
  else if hi = 0 then .mk (Pay.of 1) []
  else if lo = 1 ∧ hi = 1 then x
  else if hi = lo then .mk (Pay.of 3) (List.replicate lo.toNat x)
  else if hi = -1 then .mk (Pay.of 3) (List.replicate (lo - 1).toNat x ++ [x.rept 1 (-1)])
  else .mk (Pay.of 3) (List.replicate lo.toNat x ++ List.replicate (hi - lo).toNat (x.rept 0 1))

mutual
/-- The number of nodes of the expanded tree, at most 2^30. -/
def Re.weigh : Re → Int
  | .mk p xs => if p.op = 5 then min 1073741824 (weightL (Re.weighs xs 0) p.lo p.hi) else min 1073741824 (Re.weighs xs 0 + 1)
def Re.weighs : List Re → Int → Int
  | [], n => n
  | t :: ts, n => Re.weighs ts (min 1073741824 (n + t.weigh))
end
mutual
/-- The expanded tree. -/
def Re.expand : Re → Re
  | .mk p xs => if p.op = 5 ∧ p.hi = 0 then .mk (Pay.of 1) [] else if p.op = 5 then ((Re.expands xs).headD (.mk (Pay.of 0) [])).counted p.lo p.hi else .mk p (Re.expands xs)
def Re.expands : List Re → List Re
  | [] => []
  | t :: ts => t.expand :: Re.expands ts
end
mutual
/-- The bounds of each repetition are right. -/
def Re.okr : Re → Bool
  | .mk p xs => decide (p.op = 5 → p.badRep = false) && Re.okrs xs
def Re.okrs : List Re → Bool
  | [] => true
  | t :: ts => t.okr && Re.okrs ts
end
theorem Re.okrs_get : ∀ (xs : List Re), Re.okrs xs = true → ∀ k (hk : k < xs.length), xs[k].okr = true
  | t :: ts, h, 0, hk => by rw [Re.okrs, Bool.and_eq_true] at h; exact h.1
  | t :: ts, h, k + 1, hk => by
    rw [Re.okrs, Bool.and_eq_true] at h
    exact Re.okrs_get ts h.2 k (by simpa using hk)
theorem Pay.badRep_false {p : Pay} (h : p.badRep = false) : (0 ≤ p.lo ∧ p.lo ≤ 64) ∧ (p.hi = -1 ∨ (p.lo ≤ p.hi ∧ p.hi ≤ 64)) := by
  unfold Pay.badRep at h
  simp at h
  omega
mutual
theorem Re.ranged_okr : ∀ (t : Re) (b : Nat), (t.ranged b).isSome = true → t.okr = true
  | .mk p xs, b, h => by
    rw [Re.ranged] at h
    rw [Re.okr]
    split at h
    · cases h
    · rename_i h5
      have e1 := decide_eq_true (p := p.op = 5 → p.badRep = false) (fun e => by
        cases hx : p.badRep with
        | true => exact absurd ⟨e, hx⟩ h5
        | false => rfl)
      rw [e1]
      split at h
      · split at h
        · rw [Re.rangeds_okr xs _ h]; rfl
        · cases h
      · rw [Re.rangeds_okr xs _ h]; rfl
theorem Re.rangeds_okr : ∀ (xs : List Re) (b : Nat), (Re.rangeds xs b).isSome = true → Re.okrs xs = true
  | [], b, h => by rw [Re.okrs]
  | t :: ts, b, h => by
    rw [Re.rangeds] at h
    rw [Re.okrs]
    cases hx : t.ranged b with
    | none => rw [hx] at h; cases h
    | some n =>
      rw [hx] at h
      rw [Re.ranged_okr t b (by rw [hx]; rfl), Re.rangeds_okr ts n h]
      rfl
end
theorem weightL_nonneg {n lo hi : Int} (hn : 0 ≤ n) (hlo : 0 ≤ lo) (hhi : hi = -1 ∨ lo ≤ hi) : 0 ≤ weightL n lo hi := by
  have h1 := Int.mul_nonneg hlo hn
  unfold weightL
  split
  · omega
  · split
    · omega
    · split
      · omega
      · split
        · omega
        · split
          · omega
          · have h2 : 0 ≤ (hi - lo) * (n + 1) := Int.mul_nonneg (by omega) (by omega)
            omega
mutual
theorem Re.weigh_bd : ∀ (t : Re), t.okr = true → 0 ≤ t.weigh ∧ t.weigh ≤ 1073741824
  | .mk p xs, h => by
    rw [Re.okr, Bool.and_eq_true, decide_eq_true_eq] at h
    have h1 := Re.weighs_bd xs 0 h.2 (by omega)
    rw [Re.weigh]
    split
    · rename_i h5
      have h2 := Pay.badRep_false (h.1 h5)
      have h3 := weightL_nonneg (n := Re.weighs xs 0) (lo := p.lo) (hi := p.hi) h1.1 h2.1.1 (by omega)
      omega
    · omega
theorem Re.weighs_bd : ∀ (xs : List Re) (n : Int), Re.okrs xs = true → 0 ≤ n ∧ n ≤ 1073741824 → 0 ≤ Re.weighs xs n ∧ Re.weighs xs n ≤ 1073741824
  | [], n, _, h => by rw [Re.weighs]; exact h
  | t :: ts, n, hk, h => by
    rw [Re.okrs, Bool.and_eq_true] at hk
    have := Re.weigh_bd t hk.1
    rw [Re.weighs]
    exact Re.weighs_bd ts _ hk.2 (by omega)
end
theorem Re.weighs_take : ∀ (xs : List Re) (k : Nat) (a : Re) (n : Int), xs[k]? = some a → Re.weighs (xs.take (k + 1)) n = min 1073741824 (Re.weighs (xs.take k) n + a.weigh)
  | t :: ts, 0, a, n, h => by simp at h; subst h; simp [Re.weighs]
  | t :: ts, k + 1, a, n, h => by
    rw [List.take_succ_cons, List.take_succ_cons, Re.weighs, Re.weighs]
    exact Re.weighs_take ts k a _ (by simpa using h)
theorem Re.okrs_take : ∀ (xs : List Re) (k : Nat), Re.okrs xs = true → Re.okrs (xs.take k) = true
  | [], k, h => by simp [Re.okrs]
  | t :: ts, 0, h => by simp [Re.okrs]
  | t :: ts, k + 1, h => by
    rw [Re.okrs, Bool.and_eq_true] at h
    rw [List.take_succ_cons, Re.okrs, h.1, Re.okrs_take ts k h.2]; rfl
theorem Re.expands_map : ∀ (xs : List Re), Re.expands xs = xs.map Re.expand
  | [] => by rw [Re.expands]; rfl
  | t :: ts => by rw [Re.expands, Re.expands_map ts]; rfl
end Go.Proofs.YtjjhdddlbgdkeaaDoor

/- The plain law of the expanded tree's size: its number of nodes is what weigh tells. No program. -/
namespace Go.Proofs.YtjjhdddlbgdkeaaDoor
open Go.RowKit

theorem Re.sizes_append : ∀ (l l' : List Re), Re.sizes (l ++ l') = Re.sizes l + Re.sizes l'
  | [], l' => by simp [Re.sizes, Re.counts]
  | t :: ts, l' => by
    have h := Re.sizes_append ts l'
    simp only [Re.sizes, List.cons_append, Re.counts] at *
    omega
theorem Re.sizes_replicate (x : Re) : ∀ n, Re.sizes (List.replicate n x) = n * x.size
  | 0 => by simp [Re.sizes, Re.counts]
  | n + 1 => by
    have h := Re.sizes_replicate x n
    rw [List.replicate_succ]
    simp only [Re.sizes, Re.counts] at *
    rw [h, Nat.succ_mul]
    simp only [Re.size]
    omega
theorem Re.sizes_one (x : Re) : Re.sizes [x] = x.size := by simp [Re.sizes, Re.counts, Re.size]
theorem Re.rept_size (x : Re) (lo hi : Int) : (x.rept lo hi).size = x.size + 1 := by unfold Re.rept; rw [Re.size_mk, Re.sizes_one]
theorem Re.counted_size (x : Re) (lo hi : Int) (hlo : 0 ≤ lo) (hhi : hi = -1 ∨ lo ≤ hi) : ((x.counted lo hi).size : Int) = weightL x.size lo hi := by
  unfold Re.counted weightL
  by_cases c1 : (lo = 0 ∧ (hi = 1 ∨ hi = -1)) ∨ (lo = 1 ∧ hi = -1)
  · rw [if_pos c1, if_pos c1, Re.rept_size]; omega
  rw [if_neg c1, if_neg c1]
  by_cases c2 : hi = 0
  · rw [if_pos c2, if_pos c2, Re.size_mk]; simp [Re.sizes, Re.counts]
  rw [if_neg c2, if_neg c2]
  by_cases c3 : lo = 1 ∧ hi = 1
  · rw [if_pos c3, if_pos c3]
  rw [if_neg c3, if_neg c3]
  obtain ⟨n, rfl⟩ := Int.eq_ofNat_of_zero_le hlo
  by_cases c4 : hi = n
  · rw [if_pos c4, if_pos c4, Re.size_mk, Re.sizes_replicate]; simp; omega
  rw [if_neg c4, if_neg c4]
  by_cases c5 : hi = -1
  · obtain ⟨m, rfl⟩ : ∃ m, n = m + 1 := ⟨n - 1, by omega⟩
    rw [if_pos c5, if_pos c5, Re.size_mk, Re.sizes_append, Re.sizes_replicate, Re.sizes_one, Re.rept_size]
    have : (((m + 1 : Nat) : Int) - 1).toNat = m := by omega
    rw [this, Int.natCast_add, Int.natCast_add, Int.natCast_mul, Int.natCast_add, Int.natCast_add, Int.add_mul]
    simp
    omega
  · rw [if_neg c5, if_neg c5, Re.size_mk, Re.sizes_append, Re.sizes_replicate, Re.sizes_replicate, Re.rept_size]
    obtain ⟨m, rfl⟩ : ∃ m : Nat, hi = n + m := ⟨(hi - n).toNat, by omega⟩
    have e : ((n : Int) + m - n) = m := by omega
    rw [e, Int.toNat_natCast, Int.toNat_natCast]
    simp
    omega

mutual
theorem Re.expand_size : ∀ (t : Re), t.okr = true → t.typed = true → t.weigh < 1073741824 → (t.expand.size : Int) = t.weigh
  | .mk p xs, hok, hty, hw => by
    rw [Re.weigh] at hw
    rw [Re.weigh, Re.expand]
    have hok' := hok
    rw [Re.okr, Bool.and_eq_true, decide_eq_true_eq] at hok'
    have hty' := hty
    rw [Re.typed, Bool.and_eq_true] at hty'
    have hb := Re.weighs_bd xs 0 hok'.2 (by omega)
    by_cases h5 : p.op = 5
    · rw [if_pos h5] at hw
      rw [if_pos h5] 
      have hbd := Pay.badRep_false (hok'.1 h5)
      by_cases h0 : p.hi = 0
      · rw [if_pos ⟨h5, h0⟩, Re.size_mk]
        have : p.lo = 0 := by omega
        rw [h0, this]
        simp [weightL, Re.sizes, Re.counts, h5]
        omega
      · rw [if_neg (fun h => h0 h.2), if_pos h5]
        have hl : xs.length = 1 := by
          have h1 := hty'.1
          unfold Pay.shaped at h1
          simp [h5] at h1
          omega
        have hge : Re.weighs xs 0 ≤ weightL (Re.weighs xs 0) p.lo p.hi := by
          generalize Re.weighs xs 0 = N at *
          unfold weightL
          by_cases c1 : (p.lo = 0 ∧ (p.hi = 1 ∨ p.hi = -1)) ∨ (p.lo = 1 ∧ p.hi = -1)
          · rw [if_pos c1]; omega
          rw [if_neg c1, if_neg h0]
          by_cases c3 : p.lo = 1 ∧ p.hi = 1
          · rw [if_pos c3]; omega
          rw [if_neg c3]
          by_cases c4 : p.hi = p.lo
          · rw [if_pos c4]
            have : 1 ≤ p.lo := by omega
            have := Int.mul_le_mul_of_nonneg_right this hb.1
            omega
          rw [if_neg c4]
          by_cases c5 : p.hi = -1
          · rw [if_pos c5]
            have : 1 ≤ p.lo := by omega
            have := Int.mul_le_mul_of_nonneg_right this hb.1
            omega
          · rw [if_neg c5]
            have h1 := Int.mul_nonneg hbd.1.1 hb.1
            have h2 : 1 ≤ p.hi - p.lo := by omega
            have h3 := Int.mul_le_mul_of_nonneg_right h2 (show 0 ≤ N + 1 by omega)
            omega
        have hs := Re.expands_size xs 0 hok'.2 hty'.2 (by omega) (by omega)
        match xs, hl with
        | [x], _ =>
          rw [Re.expands, Re.expands] at *
          rw [Re.sizes_one] at hs
          simp only [List.headD_cons]
          rw [Re.counted_size _ _ _ hbd.1.1 (by omega), show (x.expand.size : Int) = Re.weighs [x] 0 by omega]
          omega
    · rw [if_neg h5] at hw
      rw [if_neg h5, if_neg (fun h => h5 h.1), if_neg h5, Re.size_mk]
      have hs := Re.expands_size xs 0 hok'.2 hty'.2 (by omega) (by omega)
      omega
theorem Re.expands_size : ∀ (xs : List Re) (n : Int), Re.okrs xs = true → Re.typeds xs = true → 0 ≤ n → Re.weighs xs n < 1073741824 → ((Re.sizes (Re.expands xs) : Nat) : Int) + n = Re.weighs xs n
  | [], n, _, _, _, _ => by rw [Re.expands, Re.weighs]; simp [Re.sizes, Re.counts]
  | t :: ts, n, hok, hty, hn, hw => by
    rw [Re.okrs, Bool.and_eq_true] at hok
    rw [Re.typeds, Bool.and_eq_true] at hty
    rw [Re.weighs] at hw
    rw [Re.weighs, Re.expands]
    have hb := Re.weigh_bd t hok.1
    have hm := Re.weighs_mono ts (min 1073741824 (n + t.weigh)) hok.2 (by omega)
    have h1 := Re.expand_size t hok.1 hty.1 (by omega)
    have h2 := Re.expands_size ts (min 1073741824 (n + t.weigh)) hok.2 hty.2 (by omega) hw
    have h3 : Re.sizes (t.expand :: Re.expands ts) = t.expand.size + Re.sizes (Re.expands ts) := by simp [Re.sizes, Re.counts, Re.size]
    rw [h3]
    omega
theorem Re.weighs_mono : ∀ (xs : List Re) (n : Int), Re.okrs xs = true → 0 ≤ n ∧ n ≤ 1073741824 → n ≤ Re.weighs xs n
  | [], n, _, _ => by rw [Re.weighs]; omega
  | t :: ts, n, hok, hn => by
    rw [Re.okrs, Bool.and_eq_true] at hok
    have hb := Re.weigh_bd t hok.1
    rw [Re.weighs]
    have := Re.weighs_mono ts (min 1073741824 (n + t.weigh)) hok.2 (by omega)
    omega
end
/-- What Expand hands back: the tree, and the error. -/
def Re.expandR (t : Re) : Re × Int := if t.err ≠ 0 then (.mk (Pay.of 0) [], t.err) else if 4096 < t.weigh then (.mk (Pay.of 0) [], 3) else (t.expand, 0)
end Go.Proofs.YtjjhdddlbgdkeaaDoor
