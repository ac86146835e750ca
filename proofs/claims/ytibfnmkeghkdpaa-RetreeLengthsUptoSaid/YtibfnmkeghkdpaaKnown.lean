/- What the program knows of a tree: known, Nullable, Length, First. -/
import Derived.Test.YtibfnmkeghkdpaaLearnGo
import Derived.Test.YtibfnmkeghkdpaaCheckEnd
import Derived.RegionTactic
import Derived.ChangeAlike
import Derived.BigRegion
import Derived.Deep.QuietTactic
import Derived.BigQuiet
namespace Go.Proofs.Ytibfnmkeghkdpaa
open Go.RowKit
attribute [local go_sem] gives givesUpon

-- def BOX := .cells #[.int .i64 p.op, .int .u64 p.set.a, .int .u64 p.set.b, .int .u64 p.set.c, .int .u64 p.set.d, .int .i64 p.lo, .int .i64 p.hi, .int .i64 p.gr, .slice ad xs.length cap] 28
-- def BL := [.int .i64 p.op, .int .u64 p.set.a, .int .u64 p.set.b, .int .u64 p.set.c, .int .u64 p.set.d, .int .i64 p.lo, .int .i64 p.hi, .int .i64 p.gr, .slice ad xs.length cap]
-- def C0 := [.bool false, .int .i64 0, .int .i64 0, .int .u64 0, .int .u64 0, .int .u64 0, .int .u64 0]
-- def Z4 := [.int .u64 0, .int .u64 0, .int .u64 0, .int .u64 0]
-- def W2C := ((w.alloc (.cells #[.int .i64 p.op, .int .u64 p.set.a, .int .u64 p.set.b, .int .u64 p.set.c, .int .u64 p.set.d, .int .i64 p.lo, .int .i64 p.hi, .int .i64 p.gr, .slice ad xs.length cap] 28)).alloc (.cells #[.int .u64 0, .int .u64 0, .int .u64 0, .int .u64 0] 25))
-- def W2 := ((w.alloc (.cells #[.int .i64 p.op, .int .u64 p.set.a, .int .u64 p.set.b, .int .u64 p.set.c, .int .u64 p.set.d, .int .i64 p.lo, .int .i64 p.hi, .int .i64 p.gr, .slice ad xs.length cap] 28)).alloc (.cells #[.bool false, .int .i64 0, .int .i64 0, .int .u64 0, .int .u64 0, .int .u64 0, .int .u64 0] 66))

theorem Pay.reps_of {p : Pay} (h : ¬ (p.op = 5 ∧ p.badRep = true)) (h5 : p.op = 5) : (-1 ≤ p.lo ∧ p.lo ≤ 64) ∧ -1 ≤ p.hi ∧ p.hi ≤ 64 := by
  have hb : p.badRep = false := by
    cases hx : p.badRep with
    | true => exact absurd ⟨h5, hx⟩ h
    | false => rfl
  unfold Pay.badRep at hb
  simp at hb
  omega
mutual
theorem Re.ranged_reps : ∀ (t : Re) (b : Nat), (t.ranged b).isSome = true → t.reps = true
  | .mk p xs, b, h => by
    rw [Re.ranged] at h
    rw [Re.reps]
    split at h
    · cases h
    · rename_i h5
      have e1 := decide_eq_true (p := p.op = 5 → (-1 ≤ p.lo ∧ p.lo ≤ 64) ∧ -1 ≤ p.hi ∧ p.hi ≤ 64) (fun e => Pay.reps_of h5 e)
      rw [e1]
      split at h
      · split at h
        · rw [Re.rangeds_reps xs _ h]; rfl
        · cases h
      · rw [Re.rangeds_reps xs _ h]; rfl
theorem Re.rangeds_reps : ∀ (xs : List Re) (b : Nat), (Re.rangeds xs b).isSome = true → Re.repss xs = true
  | [], b, h => by rw [Re.repss]
  | t :: ts, b, h => by
    rw [Re.rangeds] at h
    rw [Re.repss]
    cases hx : t.ranged b with
    | none => rw [hx] at h; cases h
    | some n =>
      rw [hx] at h
      rw [Re.ranged_reps t b (by rw [hx]; rfl), Re.rangeds_reps ts n h]
      rfl
end
theorem Re.err_zero {t : Re} (h : t.err = 0) : t.typed = true ∧ t.reps = true ∧ (t.ranged 0).isSome = true ∧ (t.named []).isSome = true ∧ t.size ≤ 600 ∧ t.groups ≤ 9 ∧ t.levels ≤ 32 := by
  unfold Re.err at h
  cases h1 : t.typed with
  | false => simp [h1] at h
  | true =>
    cases h2 : t.ranged 0 with
    | none => simp [h1, h2] at h
    | some n =>
      cases h3 : t.named [] with
      | none => simp [h1, h2, h3] at h
      | some l =>
        simp only [h1, h2, h3] at h
        refine ⟨rfl, Re.ranged_reps t 0 (by rw [h2]; rfl), rfl, rfl, ?_⟩
        by_cases hx : 600 < t.size ∨ 9 < t.groups ∨ 32 < t.levels
        · simp [hx] at h
        · omega

/-- What is known of a tree: nothing if it is not valid. -/
def Re.facts (t : Re) : Facts := if t.err = 0 then (t.learn (fun _ => none)).1 else Facts.zero
theorem Re.facts_zero {t : Re} (h : ¬ t.err = 0) : t.facts = Facts.zero := by unfold Re.facts; rw [if_neg h]
theorem Re.facts_some {t : Re} (h : t.err = 0) : t.facts = (t.learn (fun _ => none)).1 := by unfold Re.facts; rw [if_pos h]

set_option maxHeartbeats 2000000 in
theorem known_any (t : Re) (w : World) (cs : List Value) (hIn : t.In w cs) (hsz : t.size ≤ 1048576) :
    Calls Try.prog 43 #[.agg cs.toArray] w fun e w' => e = .returned (encF t.facts) ∧ Below w.heap.size w w' := by
  cases t with
  | mk p xs =>
    have hIn' := hIn
    rw [Re.In] at hIn
    obtain ⟨ad, cap, rfl, _⟩ := hIn
    simp only [Pay.cells]
    have HI := hid hIn'
    have HSZ := hid hsz
    have HW : Hid (Row ((w.alloc (.cells #[.int .i64 p.op, .int .u64 p.set.a, .int .u64 p.set.b, .int .u64 p.set.c, .int .u64 p.set.d, .int .i64 p.lo, .int .i64 p.hi, .int .i64 p.gr, .slice ad xs.length cap] 28)).alloc (.cells #[.bool false, .int .i64 0, .int .i64 0, .int .u64 0, .int .u64 0, .int .u64 0, .int .u64 0] 66)) w.heap.size [.int .i64 p.op, .int .u64 p.set.a, .int .u64 p.set.b, .int .u64 p.set.c, .int .u64 p.set.d, .int .i64 p.lo, .int .i64 p.hi, .int .i64 p.gr, .slice ad xs.length cap] 28 ∧ Row ((w.alloc (.cells #[.int .i64 p.op, .int .u64 p.set.a, .int .u64 p.set.b, .int .u64 p.set.c, .int .u64 p.set.d, .int .i64 p.lo, .int .i64 p.hi, .int .i64 p.gr, .slice ad xs.length cap] 28)).alloc (.cells #[.bool false, .int .i64 0, .int .i64 0, .int .u64 0, .int .u64 0, .int .u64 0, .int .u64 0] 66)) (w.heap.size + 1) [.bool false, .int .i64 0, .int .i64 0, .int .u64 0, .int .u64 0, .int .u64 0, .int .u64 0] 66 ∧ Below w.heap.size w ((w.alloc (.cells #[.int .i64 p.op, .int .u64 p.set.a, .int .u64 p.set.b, .int .u64 p.set.c, .int .u64 p.set.d, .int .i64 p.lo, .int .i64 p.hi, .int .i64 p.gr, .slice ad xs.length cap] 28)).alloc (.cells #[.bool false, .int .i64 0, .int .i64 0, .int .u64 0, .int .u64 0, .int .u64 0, .int .u64 0] 66))) :=
      ⟨(Row.new (cs := [.int .i64 p.op, .int .u64 p.set.a, .int .u64 p.set.b, .int .u64 p.set.c, .int .u64 p.set.d, .int .i64 p.lo, .int .i64 p.hi, .int .i64 p.gr, .slice ad xs.length cap]) rfl).alloc _, Row.new (cs := [.bool false, .int .i64 0, .int .i64 0, .int .u64 0, .int .u64 0, .int .u64 0, .int .u64 0]) (by simp), ((Below.refl _ w).alloc (Nat.le_refl _) _).alloc (by simp) _⟩
    clear hIn' hsz
    go_enter Try.func43, Try.ntmps43
    go_wp2_with fail
    refine (Check_any (.mk p xs) _ _ (HI.out.below HW.out.2.2) HSZ.out).mono ?_
    rintro e w1 ⟨rfl, hb⟩
    have hr1 := HW.out.1.below hb (by simp; omega)
    have hr2 := HW.out.2.1.below hb (by simp)
    have q1 := hr1.c9
    have q2 := hr2.c7f
    have z1 := hr1.lt
    have z2 := hr2.lt
    have HBW : Hid (Below w.heap.size w w1) := HW.out.2.2.trans (hb.mono (by simp; omega))
    have HR2 := hid hr2
    clear hb hr1 hr2 HW
    have hdec : ((Re.mk p xs).err != 0) = true ∨ ((Re.mk p xs).err != 0) = false := by cases ((Re.mk p xs).err != 0) <;> simp
    rcases hdec with hd | hd
    · have hne : ¬ (Re.mk p xs).err = 0 := by simpa using hd
      have HF := hid (Re.facts_zero hne)
      clear hne
      go_wp2_with fail
      refine ret_row 2 66 rfl (w.heap.size + 1) rfl [.bool false, .int .i64 0, .int .i64 0, .int .u64 0, .int .u64 0, .int .u64 0, .int .u64 0] (CellsAt.of_row (T := 66) (HR2.out.set7 _ _ _ _ _ _ _)) _ Try.underlying66 rfl (size_facts _ _ _ _ _ _ _) rfl ?_
      rw [HF.out]
      exact ⟨rfl, below7 HBW.out (by omega) _ _ _ _ _ _ _⟩
    · have hz : (Re.mk p xs).err = 0 := by simpa using hd
      have HF := hid (Re.facts_some hz)
      have HE := hid (Re.err_zero hz)
      have hmm := @run_makeMap Try.prog
      clear hz
      go_wp2_with fail
      refine (learn_any w1.heap.size w (by omega) (.mk p xs) _ _ (fun _ => none) HI.out (HBW.out.alloc (by omega) _) (IMap.new rfl) (fun k f h => by cases h) HE.out.1 HE.out.2.1 HSZ.out).mono ?_
      rintro e w2 ⟨rfl, hb2, -⟩
      have hb3 : But [w1.heap.size] w1 w2 := ((But.refl _ w1).alloc _).trans hb2
      have hr3 := HR2.out.but hb3 (by simp; omega)
      have q3 := hr3.c7f
      have z3 := hr3.lt
      have HR3 := hid hr3
      have HB3 : Hid (Below w.heap.size w w2) := HBW.out.trans (hb3.below (by omega) (by simp; omega))
      clear hb2 hb3 hr3 q1 q2 hmm
      generalize ((Re.mk p xs).learn (fun _ => none)).1 = F at *
      unfold encF Facts.cells
      go_wp2_with fail
      refine ret_row 2 66 rfl (w.heap.size + 1) rfl F.cells (CellsAt.of_row (T := 66) (HR3.out.set7 _ _ _ _ _ _ _)) _ Try.underlying66 rfl (size_facts _ _ _ _ _ _ _) rfl ?_
      rw [HF.out]
      exact ⟨rfl, below7 HB3.out (by omega) _ _ _ _ _ _ _⟩

/-- Two results: a struct in a block of the call's own, and a slot. -/
theorem ret_row2 {P : Program} {fn : Func} {R : Ending → World → Prop} {a : Act} {w : World} (p : Tmp) (ty : TypeId) (q : Tmp) (h : fn.results = #[.cell p ty, .tmp q]) (b : Nat) (hp : a.tmps.getD p undef = .pointer (some ⟨b, 0, none⟩)) (cs : List Value) (hc : CellsAt w b 0 cs) (d : TypeDesc)
    (hu : P.underlying ty = some d) (hd : (match d with | .struct _ | .array _ _ => true | _ => false) = true) (hi : (P.info? ty).map (·.size) = some cs.length) (hdf : a.defers = []) (hR : R (.returned (.tuple #[.agg cs.toArray, a.tmps.getD q undef])) w) : bodyPost P fn R .ret a w := by
  refine bodyPost_ret (v := .tuple #[.agg cs.toArray, a.tmps.getD q undef]) ?_ hdf hR
  have hl : (loadCells ⟨b, 0, none⟩ cs.length).run P w = .ok cs.toArray w := run_loadCells_list (P := P) w ⟨b, 0, none⟩ cs (fun j v hv => by rw [Addr.add_lit]; exact hc j v hv)
  have hrun : (loadVar ty ⟨b, 0, none⟩).run P w = .ok (.agg cs.toArray) w := by
    cases hq : P.info? ty with
    | none => simp [hq] at hi
    | some i =>
      have hs : i.size = cs.length := by simpa [hq] using hi
      have hagg : (isAgg ty).run P w = .ok true w := by
        unfold isAgg
        rw [Sem.run_bind, run_underlying hu w]
        cases d <;> simp_all
      simp [loadVar, Sem.run_bind, hagg, sizeOf, typeInfo, hq, hs, hl]
  have hp' : a.tmps[p]?.getD undef = .pointer (some ⟨b, 0, none⟩) := by simpa using hp
  simp [results, h, hp', asAddr, hrun]

set_option maxRecDepth 100000 in
set_option maxHeartbeats 2000000 in
theorem Nullable_any (t : Re) (w : World) (cs : List Value) (hIn : t.In w cs) (hsz : t.size ≤ 1048576) :
    Calls Try.prog 23 #[.agg cs.toArray] w fun e w' => e = .returned (.bool t.facts.null) ∧ Below w.heap.size w w' := by
  cases t with
  | mk p xs =>
    have hIn' := hIn
    rw [Re.In] at hIn
    obtain ⟨ad, cap, rfl, _⟩ := hIn
    simp only [Pay.cells]
    have HI := hid hIn'
    have HSZ := hid hsz
    clear hIn' hsz
    go_enter Try.func23, Try.ntmps23
    go_wp2_with fail
    refine (known_any (.mk p xs) _ _ (HI.out.below ((Below.refl _ w).alloc (Nat.le_refl _) _)) HSZ.out).mono ?_
    rintro e w1 ⟨rfl, hb⟩
    have HB : Hid (Below w.heap.size w w1) := ((Below.refl _ w).alloc (Nat.le_refl _) _).trans (hb.mono (by simp))
    clear hb
    generalize hF : (Re.mk p xs).facts = F at *
    have HF := hid hF
    clear hF
    unfold encF Facts.cells
    have hfd : ∀ w : World, (Instr.field 66 (.agg #[.bool F.null, .int .i64 F.least, .int .i64 F.most, .int .u64 F.first.a, .int .u64 F.first.b, .int .u64 F.first.c, .int .u64 F.first.d]) 0).run Try.prog w = .ok (.bool F.null) w := fun _ => by kernel_rfl
    go_wp2_with fail
    all_goals go_ret
    all_goals exact ⟨ret_bool (by rw [HF.out]), HB.out⟩

set_option maxHeartbeats 2000000 in
theorem Length_any (t : Re) (w : World) (cs : List Value) (hIn : t.In w cs) (hsz : t.size ≤ 1048576) :
    Calls Try.prog 19 #[.agg cs.toArray] w fun e w' => e = .returned (.tuple #[.int .i64 t.facts.least, .int .i64 t.facts.most]) ∧ Below w.heap.size w w' := by
  cases t with
  | mk p xs =>
    have hIn' := hIn
    rw [Re.In] at hIn
    obtain ⟨ad, cap, rfl, _⟩ := hIn
    simp only [Pay.cells]
    have HI := hid hIn'
    have HSZ := hid hsz
    clear hIn' hsz
    go_enter Try.func19, Try.ntmps19
    go_wp2_with fail
    refine (known_any (.mk p xs) _ _ (HI.out.below ((Below.refl _ w).alloc (Nat.le_refl _) _)) HSZ.out).mono ?_
    rintro e w1 ⟨rfl, hb⟩
    have HB : Hid (Below w.heap.size w w1) := ((Below.refl _ w).alloc (Nat.le_refl _) _).trans (hb.mono (by simp))
    clear hb
    generalize hF : (Re.mk p xs).facts = F at *
    have HF := hid hF
    clear hF
    unfold encF Facts.cells
    go_wp2_with fail
    go_quiet (fail)
    go_wp2_with fail
    all_goals go_ret2
    all_goals exact ⟨by rw [HF.out]; rfl, below_drewN (HB.out.alloc (by have := HB.out.size; omega) _) _⟩

set_option maxHeartbeats 4000000 in
theorem First_any (t : Re) (w : World) (cs : List Value) (hIn : t.In w cs) (hsz : t.size ≤ 1048576) :
    Calls Try.prog 21 #[.agg cs.toArray] w fun e w' => e = .returned (.tuple #[.agg t.facts.first.cells.toArray, .bool t.facts.null]) ∧ Below w.heap.size w w' := by
  cases t with
  | mk p xs =>
    have hIn' := hIn
    rw [Re.In] at hIn
    obtain ⟨ad, cap, rfl, _⟩ := hIn
    simp only [Pay.cells]
    have HI := hid hIn'
    have HSZ := hid hsz
    have HR : Hid (Row ((w.alloc (.cells #[.int .i64 p.op, .int .u64 p.set.a, .int .u64 p.set.b, .int .u64 p.set.c, .int .u64 p.set.d, .int .i64 p.lo, .int .i64 p.hi, .int .i64 p.gr, .slice ad xs.length cap] 28)).alloc (.cells #[.int .u64 0, .int .u64 0, .int .u64 0, .int .u64 0] 25)) (w.heap.size + 1) [.int .u64 0, .int .u64 0, .int .u64 0, .int .u64 0] 25 ∧ Below w.heap.size w ((w.alloc (.cells #[.int .i64 p.op, .int .u64 p.set.a, .int .u64 p.set.b, .int .u64 p.set.c, .int .u64 p.set.d, .int .i64 p.lo, .int .i64 p.hi, .int .i64 p.gr, .slice ad xs.length cap] 28)).alloc (.cells #[.int .u64 0, .int .u64 0, .int .u64 0, .int .u64 0] 25))) :=
      ⟨Row.new (cs := [.int .u64 0, .int .u64 0, .int .u64 0, .int .u64 0]) (by simp), ((Below.refl _ w).alloc (Nat.le_refl _) _).alloc (by simp) _⟩
    clear hIn' hsz
    go_enter Try.func21, Try.ntmps21
    go_wp2_with fail
    refine (known_any (.mk p xs) _ _ (HI.out.below HR.out.2) HSZ.out).mono ?_
    rintro e w1 ⟨rfl, hb⟩
    have hr := HR.out.1.below hb (by simp)
    have q := hr.c4
    have z := hr.lt
    have HRR := hid hr
    have HB : Hid (Below w.heap.size w w1) := HR.out.2.trans (hb.mono (by simp; omega))
    clear hb hr HR
    generalize hF : (Re.mk p xs).facts = F at *
    have HF := hid hF
    clear hF
    unfold encF Facts.cells
    go_wp2_with fail
    go_region
    all_goals go_wp2_with fail
    all_goals
      refine ret_row2 2 25 3 rfl (w.heap.size + 1) rfl [.int .u64 F.first.a, .int .u64 F.first.b, .int .u64 F.first.c, .int .u64 F.first.d] (CellsAt.of_row (T := 25) ((HRR.out.set4 _ _ _ _).alloc _).drew) _ Try.underlying25 rfl size_cs rfl ?_
      rw [HF.out]
      exact ⟨rfl, ((below4 HB.out (by omega) _ _ _ _).alloc (by have := HB.out.size; simp [World.setCell]; omega) _).drew⟩
end Go.Proofs.Ytibfnmkeghkdpaa
