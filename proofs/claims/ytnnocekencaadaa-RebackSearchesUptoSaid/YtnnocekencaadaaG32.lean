/- Reback: the walk of a search at several offsets. -/
import Derived.Test.YtnnocekencaadaaG31
import Derived.Test.YtnnocekencaadaaG29
namespace Go.Proofs.Ytnnocekencaadaa
open Go.RowKit
attribute [local go_sem] gives givesUpon

/-- The error of an outcome. -/
def Out.errno : Out → Int
  | .over => 11
  | _ => 0
/-- How a search may end, with B tries in all. -/
def FindPost (B : Nat) (E : Out → Nat → Prop) (w : World) (e : Ending) (w' : World) : Prop :=
  ∃ (o : Out) (m : Nat) (v : Value), E o m ∧ m ≤ B ∧ e = .returned (.tuple #[.agg #[v], .bool o.isFound, .int .i64 ((B - m : Nat) : Int), .int .i64 o.errno]) ∧ Below w.heap.size w w' ∧ (∀ l, o = .found l → SpB (w.heap.size ≤ ·) w' v l) ∧ (o.isFound = false → v = .slice none 0 0)
-- def BX := [.int .i64 p.op, .int .u64 p.set.a, .int .u64 p.set.b, .int .u64 p.set.c, .int .u64 p.set.d, .int .i64 p.lo, .int .i64 p.hi, .int .i64 p.gr, .slice ad xs.length cp]
-- def W2 := ((w.alloc (.cells #[.int .i64 p.op, .int .u64 p.set.a, .int .u64 p.set.b, .int .u64 p.set.c, .int .u64 p.set.d, .int .i64 p.lo, .int .i64 p.hi, .int .i64 p.gr, .slice ad xs.length cp] 28)).alloc (.cells #[.slice none 0 0] 35))
-- def CC := (⟨w, w.heap.size + 2, w.heap.size + 3, 0, (Re.mk p xs).groups, B, s, lines⟩ : Ctx)
/-- What the loop over offsets keeps: the context's search lies behind w. -/
def FindL (C : Ctx) (w : World) (n : Nat) (e : Re) (from_ d0 : Nat) (BXL : List Value) (i d : Nat) (ov : Bool) (wr : World) : Prop :=
  (Row wr w.heap.size BXL 28 ∧ Row wr (w.heap.size + 1) [.slice none 0 0] 35) ∧ Below w.heap.size w wr ∧
  (ov = false → ∃ n', n' ≤ n ∧ Rest C n' false wr ∧ ∀ o m, EvFind C.str C.lines e C.N i d n' o m → EvFind C.str C.lines e C.N from_ d0 n o m) ∧ (ov = true → Rest C 0 true wr ∧ EvFind C.str C.lines e C.N from_ d0 n .over 0)

set_option maxRecDepth 100000 in
set_option maxHeartbeats 16000000 in
theorem find_any (w : World) (p : Pay) (xs : List Re) (ad : Option Addr) (cp from_ to_ : Nat) (s : ByteArray) (lines : Bool) (budget : Int) (B : Nat) (hin : (Re.mk p xs).In w [.int .i64 p.op, .int .u64 p.set.a, .int .u64 p.set.b, .int .u64 p.set.c, .int .u64 p.set.d, .int .i64 p.lo, .int .i64 p.hi, .int .i64 p.gr, .slice ad xs.length cp]) (hok : (Re.mk p xs).ok (Re.mk p xs).groups) (hsz : (Re.mk p xs).size ≤ 1048576) (hgr : (Re.mk p xs).groups ≤ 9) (hto : to_ ≤ s.size) (hft : from_ ≤ to_) (hs : s.size ≤ 1000000) (hB : max budget 0 = (B : Int)) (hB2 : B ≤ 20000) :
    Calls Try.prog 18 #[.agg #[.int .i64 p.op, .int .u64 p.set.a, .int .u64 p.set.b, .int .u64 p.set.c, .int .u64 p.set.d, .int .i64 p.lo, .int .i64 p.hi, .int .i64 p.gr, .slice ad xs.length cp], .string s, .int .i64 from_, .int .i64 to_, .bool lines, .int .i64 budget] w (FindPost B (EvFind s.data.toList lines (.mk p xs) (Re.mk p xs).groups from_ (to_ + 1 - from_) B) w) := by
  have R0 : Row ((w.alloc (.cells #[.int .i64 p.op, .int .u64 p.set.a, .int .u64 p.set.b, .int .u64 p.set.c, .int .u64 p.set.d, .int .i64 p.lo, .int .i64 p.hi, .int .i64 p.gr, .slice ad xs.length cp] 28)).alloc (.cells #[.slice none 0 0] 35)) w.heap.size [.int .i64 p.op, .int .u64 p.set.a, .int .u64 p.set.b, .int .u64 p.set.c, .int .u64 p.set.d, .int .i64 p.lo, .int .i64 p.hi, .int .i64 p.gr, .slice ad xs.length cp] 28 := (Row.new rfl).alloc _
  have R1 : Row ((w.alloc (.cells #[.int .i64 p.op, .int .u64 p.set.a, .int .u64 p.set.b, .int .u64 p.set.c, .int .u64 p.set.d, .int .i64 p.lo, .int .i64 p.hi, .int .i64 p.gr, .slice ad xs.length cp] 28)).alloc (.cells #[.slice none 0 0] 35)) (w.heap.size + 1) [.slice none 0 0] 35 := Row.new (by simp)
  have hBl : Below w.heap.size w ((w.alloc (.cells #[.int .i64 p.op, .int .u64 p.set.a, .int .u64 p.set.b, .int .u64 p.set.c, .int .u64 p.set.d, .int .i64 p.lo, .int .i64 p.hi, .int .i64 p.gr, .slice ad xs.length cp] 28)).alloc (.cells #[.slice none 0 0] 35)) := ((Below.refl w.heap.size w).alloc (Nat.le_refl _) _).alloc (by simp) _
  have HRR := hid (⟨R0, R1⟩ : _ ∧ _)
  have HBL := hid hBl
  have HIN := hid hin
  have HOK := hid hok
  have HSZ := hid hsz
  have HBEG := hid (begin_any ((w.alloc (.cells #[.int .i64 p.op, .int .u64 p.set.a, .int .u64 p.set.b, .int .u64 p.set.c, .int .u64 p.set.d, .int .i64 p.lo, .int .i64 p.hi, .int .i64 p.gr, .slice ad xs.length cp] 28)).alloc (.cells #[.slice none 0 0] 35)) w s lines budget B (Re.mk p xs).groups 0 hB)
  have q0 := R0.c9
  clear hin hok R0 R1 hBl hsz hB
  go_enter Try.func18, Try.ntmps18
  go_wp2_with fail
  refine HBEG.out.mono ?_
  rintro e w1 ⟨rfl, hm, hmb, hb1⟩
  have hz : (((w.alloc (.cells #[.int .i64 p.op, .int .u64 p.set.a, .int .u64 p.set.b, .int .u64 p.set.c, .int .u64 p.set.d, .int .i64 p.lo, .int .i64 p.hi, .int .i64 p.gr, .slice ad xs.length cp] 28)).alloc (.cells #[.slice none 0 0] 35))).heap.size = w.heap.size + 2 := by simp
  rw [hz] at hm hmb hb1
  have hb2 : Below w.heap.size w w1 := HBL.out.trans (hb1.mono (by omega))
  have hr1 := HRR.out.1.below hb1 (by omega)
  have hr2 := HRR.out.2.below hb1 (by omega)
  have HRS : Hid (Rest (⟨w, w.heap.size + 2, w.heap.size + 3, 0, (Re.mk p xs).groups, B, s, lines⟩ : Ctx) B false w1) := ⟨hb2, by show Row _ _ (Ctx.cells _ ((B - B : Nat) : Int) false) _; rw [Nat.sub_self]; exact hm, hmb, by show w.heap.size ≤ w.heap.size + 2; omega, Nat.le_refl _, hB2, hs, hgr⟩
  have HR1 := hid (⟨hr1, hr2⟩ : _ ∧ _)
  have HB2 := hid hb2
  have q1 := hr1.c9
  clear HBEG q0 hm hmb hb1 hb2 hr1 hr2 hz
  -- REST
  go_wp2_with fail
  refine (Groups_any (.mk p xs) _ _ (HIN.out.below HB2.out) HSZ.out).mono ?_
  rintro e w2 ⟨rfl, hb3⟩
  have HX2 := hid (⟨⟨HR1.out.1.below hb3 HR1.out.1.lt, HR1.out.2.below hb3 HR1.out.2.lt⟩, HB2.out.trans (hb3.mono HB2.out.size), HRS.out.later hb3⟩ : (Row w2 _ _ _ ∧ Row w2 _ _ _) ∧ Below _ _ w2 ∧ Rest _ _ _ w2)
  have hsl : s.data.toList.length = s.size := by rw [Array.length_toList]; rfl
  have HSL := hid hsl
  have hto2 : (to_ : Int) ≤ 1000000 := by omega
  clear hb3 HR1 HB2 HRS q1 hsl
  go_wp2_with fail
  go_loopw [18] (fun v wr => ∃ (i : Nat) (ov : Bool), v = .int .i64 i ∧ from_ ≤ i ∧ i ≤ to_ + 1 ∧ Hid (FindL (⟨w, w.heap.size + 2, w.heap.size + 3, 0, (Re.mk p xs).groups, B, s, lines⟩ : Ctx) w B (.mk p xs) from_ (to_ + 1 - from_) [.int .i64 p.op, .int .u64 p.set.a, .int .u64 p.set.b, .int .u64 p.set.c, .int .u64 p.set.d, .int .i64 p.lo, .int .i64 p.hi, .int .i64 p.gr, .slice ad xs.length cp] i (to_ + 1 - i) ov wr)) (fun v _ => to_ + 1 - (intOf v).toNat)
  case atStart =>
    exact ⟨from_, false, rfl, Nat.le_refl _, by omega, HX2.out.1, HX2.out.2.1, fun _ => ⟨B, Nat.le_refl _, HX2.out.2.2, fun o m he => he⟩, fun e => (by cases e)⟩
  case round =>
    obtain ⟨i, ov, rfl, hfi, hit, HL⟩ := hrel
    cases ov with
    | true =>
      obtain ⟨hr, hbw, -, hov⟩ := HL.out
      obtain ⟨hst, hev⟩ := hov rfl
      have HX := hid (⟨hr, hbw, hst, hev⟩ : _ ∧ _ ∧ _ ∧ _)
      have pc := hst.c
      have p0 := hr.1.c9
      clear hr hbw hov hst hev HL HX2
      by_cases hle : i ≤ to_
      all_goals
        have hleI : (i : Int) ≤ (to_ : Int) ∨ ¬ (i : Int) ≤ (to_ : Int) := by omega
        rcases hleI with hleI | hleI
        all_goals
          first
          | (exfalso; omega)
          | skip
        go_wp2_with fail
        clear pc p0
        generalize hwz : wr = wz at *
        have hc := HX.out.2.2.1.c
        have hx0 := HX.out.1.2.cell 0
        have hx1 := HX.out.1.2.free 0
        go_region
        go_wp2_with fail
        refine bodyPost_ret (results_cell_tmp3 rfl _ _ (w.heap.size + 1) _ _ _ _ rfl (show _ = some (Obj.cells (List.toArray _) _) from (HX.out.1.2.set 0 (.slice none 0 0)).drew) Try.underlying35 rfl (by kernel_rfl)) rfl ?_
        exact ⟨.over, 0, _, HX.out.2.2.2, HX.out.2.2.1.nB, rfl, (HX.out.2.1.setCell (by simp) _).drew, fun l hl => (by cases hl), fun _ => rfl⟩
    | false =>
      obtain ⟨hr, hbw, hpr, -⟩ := HL.out
      obtain ⟨n', hn', hst, hrest⟩ := hpr rfl
      have pc := hst.c
      have p0 := hr.1.c9
      by_cases hle : i ≤ to_
      · have HX := hid (⟨hr, hbw, hst, hrest⟩ : _ ∧ _ ∧ _ ∧ _)
        have hleI : (i : Int) ≤ (to_ : Int) := by omega
        have hwi : IntKind.i64.wrap ((i : Int) + 1) = (i : Int) + 1 := by rw [IntKind.wrap_i64]; omega
        clear hr hbw hpr hst hrest HL HX2
        go_wp2_with fail
        refine (at_any (C := (⟨w, w.heap.size + 2, w.heap.size + 3, 0, (Re.mk p xs).groups, B, s, lines⟩ : Ctx)) wr n' p xs ad cp i HIN.out HOK.out (by show i ≤ s.size; omega) HX.out.2.2.1).mono ?_
        rintro e w' ⟨o', m, v, he, rfl, hst', hbut', hf1, hf2⟩
        have hbw' : Below w.heap.size w w' := HX.out.2.1.trans (hbut'.below HX.out.2.1.size (fun k hk => by rw [List.mem_singleton.1 hk]; show w.heap.size ≤ w.heap.size + 2; omega))
        have hr' : (Row w' w.heap.size [.int .i64 p.op, .int .u64 p.set.a, .int .u64 p.set.b, .int .u64 p.set.c, .int .u64 p.set.d, .int .i64 p.lo, .int .i64 p.hi, .int .i64 p.gr, .slice ad xs.length cp] 28 ∧ Row w' (w.heap.size + 1) [.slice none 0 0] 35) := ⟨HX.out.1.1.but hbut' (by show _ ∉ [w.heap.size + 2]; simp), HX.out.1.2.but hbut' (by show _ ∉ [w.heap.size + 2]; simp)⟩
        have hwr := HX.out.2.1.size
        have hll : (EvAt s.data.toList lines (.mk p xs) (Re.mk p xs).groups i (s.data.toList.length + 1 - i) n' o' m) := by rw [HSL.out]; exact he
        have hdd : to_ + 1 - i = (to_ - i) + 1 := by omega
        have hmn := (EvAt.left _ _ _ _ he).1
        cases o' with
        | found l =>
          have hf := hf1 l rfl
          obtain ⟨va, vc, rfl⟩ := hf.form
          have HXF := hid (⟨hr', hbw', hst', hf.mono (fun b _ hb => Nat.le_trans hwr hb), HX.out.2.2.2 _ _ (by rw [hdd]; exact .hit hll (by intro h; cases h))⟩ : _ ∧ _ ∧ _ ∧ SpB (w.heap.size ≤ ·) _ _ _ ∧ _)
          have q5 := hst'.c
          have hsz := hr'.2.lt
          clear he hst' hbut' hf1 hf2 hbw' hr' hll hf pc p0
          simp only [Out.isFound]
          go_wp2_with fail
          have hal : Below w'.heap.size w' (w'.alloc (.cells #[.slice va l.length vc] 35)) := (Below.refl _ _).alloc (Nat.le_refl _) _
          have HAL := hid hal
          clear q5
          have HZ := hid (⟨(Row.new (w := w') (cs := [.slice va l.length vc]) (T := 35) rfl), HXF.out.1.2.alloc (.cells #[.slice va l.length vc] 35), HXF.out.2.2.1.later hal⟩ : _ ∧ _ ∧ _)
          have HWZ := hid (⟨HXF.out.2.1.trans (hal.mono HXF.out.2.1.size), HXF.out.2.2.2.1.below hal⟩ : _ ∧ SpB (w.heap.size ≤ ·) _ _ _)
          clear hal
          generalize hwz : w'.alloc (.cells #[.slice va l.length vc] 35) = wz at *
          have hc := HZ.out.2.2.c
          have hx0 := HZ.out.2.1.cell 0
          have hx1 := HZ.out.2.1.free 0
          have hx2 := HZ.out.1.cell 0
          clear hwz
          go_region
          go_wp2_with fail
          refine bodyPost_ret (results_cell_tmp3 rfl _ _ (w.heap.size + 1) _ _ _ _ rfl (show _ = some (Obj.cells (List.toArray _) _) from (HZ.out.2.1.set 0 (.slice va l.length vc)).drew) Try.underlying35 rfl (by kernel_rfl)) rfl ?_
          refine ⟨.found l, m, _, HXF.out.2.2.2.2, by omega, rfl, (HWZ.out.1.setCell (by simp) _).drew, fun l' hl' => ?_, fun h => (by cases h)⟩
          injection hl' with hl'
          subst hl'
          rcases HWZ.out.2 with ⟨h0, h1⟩ | ⟨h0, b, c, more, e, hb, hr⟩
          · exact .inl ⟨h0, h1⟩
          · exact .inr ⟨h0, b, c, more, e, hb, (hr.other (fun e2 => by subst e2; exact absurd (hr.typed HZ.out.2.1) (by decide)) _ _).drew⟩
        | fail =>
          obtain rfl := hf2 rfl
          have HXF := hid (⟨hr', hbw', hst', fun o2 m2 (h2 : EvFind s.data.toList lines (.mk p xs) (Re.mk p xs).groups (i + 1) (to_ - i) m o2 m2) => HX.out.2.2.2 o2 m2 (by rw [hdd]; exact .miss hll h2)⟩ : _ ∧ _ ∧ _ ∧ _)
          have hsz := hr'.2.lt
          clear he hst' hbut' hf1 hf2 hbw' hr' hll pc p0
          simp only [Out.isFound]
          go_wp2_with fail
          have hal : Below w'.heap.size w' (w'.alloc (.cells #[.slice none 0 0] 35)) := (Below.refl _ _).alloc (Nat.le_refl _) _
          refine ⟨⟨i + 1, false, by go_num, by omega, by omega, ⟨HXF.out.1.1.alloc _, HXF.out.1.2.alloc _⟩, HXF.out.2.1.trans (hal.mono HXF.out.2.1.size), fun _ => ⟨m, by omega, HXF.out.2.2.1.later hal, fun o2 m2 h2 => HXF.out.2.2.2 o2 m2 (by rw [show to_ + 1 - (i + 1) = to_ - i by omega] at h2; exact h2)⟩, fun e => (by cases e)⟩, ?_⟩
          simp [intOf]; omega
        | over =>
          obtain rfl := hf2 rfl
          have h0 := (EvAt.left _ _ _ _ he).2 rfl
          subst h0
          have HXF := hid (⟨hr', hbw', hst', HX.out.2.2.2 .over 0 (by rw [hdd]; exact .hit hll (by intro h; cases h))⟩ : _ ∧ _ ∧ _ ∧ _)
          have hsz := hr'.2.lt
          clear he hst' hbut' hf1 hf2 hbw' hr' hll pc p0
          simp only [Out.isFound]
          go_wp2_with fail
          have hal : Below w'.heap.size w' (w'.alloc (.cells #[.slice none 0 0] 35)) := (Below.refl _ _).alloc (Nat.le_refl _) _
          refine ⟨⟨i + 1, true, by go_num, by omega, by omega, ⟨HXF.out.1.1.alloc _, HXF.out.1.2.alloc _⟩, HXF.out.2.1.trans (hal.mono HXF.out.2.1.size), fun e => (by cases e), fun _ => ⟨HXF.out.2.2.1.later hal, HXF.out.2.2.2⟩⟩, ?_⟩
          simp [intOf]; omega
      · have HX := hid (⟨hr, hbw, hst, hrest _ _ (by rw [show to_ + 1 - i = 0 by omega]; exact .none)⟩ : _ ∧ _ ∧ _ ∧ _)
        have hleI : ¬ (i : Int) ≤ (to_ : Int) := by omega
        clear hr hbw hpr hst hrest HL HX2
        go_wp2_with fail
        clear pc p0
        generalize hwz : wr = wz at *
        have hc := HX.out.2.2.1.c
        have hx0 := HX.out.1.2.cell 0
        have hx1 := HX.out.1.2.free 0
        go_region
        go_wp2_with fail
        refine bodyPost_ret (results_cell_tmp3 rfl _ _ (w.heap.size + 1) _ _ _ _ rfl (show _ = some (Obj.cells (List.toArray _) _) from (HX.out.1.2.set 0 (.slice none 0 0)).drew) Try.underlying35 rfl (by kernel_rfl)) rfl ?_
        exact ⟨.fail, n', _, HX.out.2.2.2, HX.out.2.2.1.nB, rfl, (HX.out.2.1.setCell (by simp) _).drew, fun l hl => (by cases hl), fun _ => rfl⟩
end Go.Proofs.Ytnnocekencaadaa

/- The reference's questions on bounds and names, and the check of a tree. -/
namespace Go.Proofs.Ytnnocekencaadaa
open Go.RowKit

set_option maxHeartbeats 2000000 in
theorem countedRef_any (p : Pay) (sl : Value) (w : World) :
    Calls Try.prog 65 #[.agg #[.int .i64 p.op, .int .u64 p.set.a, .int .u64 p.set.b, .int .u64 p.set.c, .int .u64 p.set.d, .int .i64 p.lo, .int .i64 p.hi, .int .i64 p.gr, sl]] w fun e w' => e = .returned (.bool (!p.badRep)) ∧ Below w.heap.size w w' := by
  have HHI : (p.hi == -1) = true ∨ (p.hi == -1) = false := by cases (p.hi == -1) <;> simp
  rcases HHI with dh | dh
  all_goals
    have HDH := hid dh
    go_enter Try.func65, Try.ntmps65
    go_wp2_with fail
    all_goals
      go_ret
      refine ⟨ret_bool ?_, (Below.refl _ _).alloc (Nat.le_refl _) _⟩
      have hh := HDH.out
      simp at hh
      rw [Bool.eq_iff_iff]
      simp [Pay.badRep, hh]
      try omega

/-- What the question on bounds answers: a number and a bool; the number where the bool is true. -/
def RangedPost (r : Option Nat) (w : World) (e : Ending) (w' : World) : Prop := Below w.heap.size w w' ∧ ∃ m : Int, e = .returned (.tuple #[.int .i64 m, .bool r.isSome]) ∧ ∀ n, r = some n → m = (n : Int)

theorem Re.rangeds_take : ∀ (xs : List Re) (k : Nat) (a : Re) (b n : Nat), xs[k]? = some a → Re.rangeds (xs.take k) b = some n → Re.rangeds (xs.take (k + 1)) b = a.ranged n
  | t :: ts, 0, a, b, n, h, h2 => by
    simp at h; subst h
    simp only [List.take_zero, Re.rangeds, Option.some.injEq] at h2
    subst h2
    simp only [List.take_succ_cons, List.take_zero, Re.rangeds]
    cases t.ranged b <;> rfl
  | t :: ts, k + 1, a, b, n, h, h2 => by
    simp only [List.take_succ_cons, Re.rangeds] at h2 ⊢
    cases hx : t.ranged b with
    | none => rw [hx] at h2; simp at h2
    | some m => rw [hx] at h2; exact Re.rangeds_take ts k a m n (by simpa using h) h2
theorem Re.rangeds_none : ∀ (xs : List Re) (k : Nat) (a : Re) (b n : Nat), xs[k]? = some a → Re.rangeds (xs.take k) b = some n → a.ranged n = none → Re.rangeds xs b = none
  | t :: ts, 0, a, b, n, h, h2, h3 => by
    simp at h; subst h
    simp only [List.take_zero, Re.rangeds, Option.some.injEq] at h2
    subst h2
    simp [Re.rangeds, h3]
  | t :: ts, k + 1, a, b, n, h, h2, h3 => by
    simp only [List.take_succ_cons, Re.rangeds] at h2 ⊢
    cases hx : t.ranged b with
    | none => rfl
    | some m => rw [hx] at h2; exact Re.rangeds_none ts k a m n (by simpa using h) h2 h3

set_option maxHeartbeats 4000000 in
theorem rangedRef_any (t : Re) : ∀ (w : World) (cs : List Value) (bf : Nat), t.In w cs → bf + t.size ≤ 1048577 →
    Calls Try.prog 49 #[.agg cs.toArray, .int .i64 bf] w (RangedPost (t.ranged bf) w) := by
  induction t using Re.ind with
  | h p xs ih =>
    intro w cs bf hIn hsz
    rw [Re.In] at hIn
    obtain ⟨ad, cap, rfl, hwf, hlc, hcm, hnil, hall⟩ := hIn
    rw [Re.size_mk] at hsz
    have hlen := Re.sizes_len xs
    have HIH := hid ih
    have HAL := hid hall
    have HWF := hid hwf
    clear ih hall hwf
    simp only [Pay.cells]
    by_cases o5 : p.op = 5
    · have d5 : (p.op == 5) = true := by simpa using o5
      have d6 : (p.op == 6) = false := by simp [o5]
      by_cases hbr : p.badRep = true
      · have HR : Hid (Re.ranged (.mk p xs) bf = none) := by show _ = _; rw [Re.ranged, if_pos ⟨o5, hbr⟩]
        clear o5
        rw [HR.out]
        go_enter Try.func49, Try.ntmps49
        go_wp2_with fail
        refine (countedRef_any p (.slice ad xs.length cap) _).mono ?_
        rw [hbr]
        rintro e w1 ⟨rfl, hb1⟩
        have hb1' : Below (w.heap.size + 1) (w.alloc (.cells #[.int .i64 p.op, .int .u64 p.set.a, .int .u64 p.set.b, .int .u64 p.set.c, .int .u64 p.set.d, .int .i64 p.lo, .int .i64 p.hi, .int .i64 p.gr, .slice ad xs.length cap] 28)) w1 := hb1.mono (by simp)
        obtain ⟨hbx0, hbl0, hlt00⟩ := box_facts hb1'
        have HB1 := hid hb1'
        have HBL0 := hid hbl0
        have q0 := hbx0.c9
        clear hb1 hb1' hbx0 hbl0 hbr
        go_wp2_with fail
        go_ret2
        exact ⟨HBL0.out, bf, rfl, fun n hn => by cases hn⟩
      · have hbr : p.badRep = false := by simpa using hbr
        have HR : Hid (Re.ranged (.mk p xs) bf = Re.rangeds xs bf) := by show _ = _; rw [Re.ranged, if_neg (fun h => by rw [hbr] at h; simp at h), if_neg (by omega)]
        clear o5
        rw [HR.out]
        go_enter Try.func49, Try.ntmps49
        go_wp2_with fail
        refine (countedRef_any p (.slice ad xs.length cap) _).mono ?_
        rw [hbr]
        rintro e w1 ⟨rfl, hb1⟩
        have hb1' : Below (w.heap.size + 1) (w.alloc (.cells #[.int .i64 p.op, .int .u64 p.set.a, .int .u64 p.set.b, .int .u64 p.set.c, .int .u64 p.set.d, .int .i64 p.lo, .int .i64 p.hi, .int .i64 p.gr, .slice ad xs.length cap] 28)) w1 := hb1.mono (by simp)
        obtain ⟨hbx0, hbl0, hlt00⟩ := box_facts hb1'
        have HB1 := hid hb1'
        have HBL0 := hid hbl0
        have q0 := hbx0.c9
        clear hb1 hb1' hbx0 hbl0 hbr
        go_wp2_with fail
        go_loopw [1, 6, 7, 8] (fun v i _ _ wr => ∃ k n : Nat, k ≤ xs.length ∧ i = .int .i64 k ∧ v = .int .i64 n ∧ Hid (Re.rangeds (xs.take k) (bf) = some n) ∧ Below (w.heap.size + 1) (w.alloc (.cells #[.int .i64 p.op, .int .u64 p.set.a, .int .u64 p.set.b, .int .u64 p.set.c, .int .u64 p.set.d, .int .i64 p.lo, .int .i64 p.hi, .int .i64 p.gr, .slice ad xs.length cap] 28)) wr) (fun _ i _ _ _ => xs.length - (intOf i).toNat)
        case atStart => exact ⟨0, bf, by omega, rfl, rfl, rfl, HB1.out⟩
        case round =>
          obtain ⟨k, n, hk, rfl, rfl, hn, hbw⟩ := hrel
          obtain ⟨hbx, hbl, hlt0⟩ := box_facts hbw
          have q := hbx.c9
          have HBW := hid hbw
          have HBL := hid hbl
          clear hbw hbx hbl
          have hgr := Re.rangeds_groups _ _ _ hn.out
          have hcl := Re.counts_le (· == 6) (xs.take k)
          have hct := Re.counts_take_le (fun _ => true) xs k
          by_cases hlt : k < xs.length
          · obtain ⟨b, o, p', ad', n', cap', rfl, HC, HI0, hbb⟩ := HAL.out.kid HBL.out k hlt
            have hst := Re.counts_take (fun _ => true) xs k xs[k] (by simp [hlt])
            have hst1 := Re.counts_take_le (fun _ => true) xs (k + 1)
            simp only [Re.sizes, Re.size] at *
            have HCA := hid (HIH.out xs[k] (by simp) wr _ n (HI0.out.below HBL.out) (by omega))
            have HT := hid (Re.rangeds_take xs k xs[k] (bf) n (by simp [hlt]) hn.out)
            have HN := hid (Re.rangeds_none xs k xs[k] (bf) n (by simp [hlt]) hn.out)
            have hnl : n ≤ 1048577 := by omega
            generalize hres : xs[k].ranged n = res at HCA
            have HRES := hid hres
            clear hst hst1 hgr hcl hct hres
            go_wp2_with (first | (with_reducible (refine wpList_load_agg rfl 28 _ rfl b (o + (k * 9)) rfl _ _ HC.out Try.underlying28 rfl (size_re9 _ _ _ _ _ _ _ _ _) ?_)))
            refine HCA.out.mono ?_
            rintro e w2 ⟨hb2, m, rfl, hm⟩
            have HB2 := hid hb2
            have HM := hid hm
            clear hb2 HCA hm
            cases res with
            | none =>
              go_wp2_with fail
              go_ret2
              refine ⟨HBL.out.trans (HB2.out.mono (by omega)), n, ?_, fun n' hn' => ?_⟩
              · rw [HN.out HRES.out]; rfl
              · rw [HN.out HRES.out] at hn'; cases hn'
            | some n2 =>
              obtain rfl : m = (n2 : Int) := HM.out n2 rfl
              go_wp2_with fail
              go_roundw
              case rel =>
                refine ⟨k + 1, n2, by omega, by go_num, rfl, ?_, HBW.out.trans (HB2.out.mono (by omega))⟩
                show _ = _
                rw [HT.out, HRES.out]
              case measure => simp [intOf]; omega
          · obtain rfl : k = xs.length := by omega
            go_wp2_with fail
            go_ret2
            have hn2 := hn.out
            rw [List.take_length] at hn2
            refine ⟨HBL.out, n, by rw [hn2]; rfl, fun n' hn' => by rw [hn2] at hn'; cases hn'; rfl⟩
    · by_cases o6 : p.op = 6
      · have d5 : (p.op == 5) = false := by simpa using o5
        have d6 : (p.op == 6) = true := by simpa using o6
        have hgw := HWF.out.gr
        by_cases hg : p.gr = bf + 1
        · have HR : Hid (Re.ranged (.mk p xs) bf = Re.rangeds xs (bf + 1)) := by show _ = _; rw [Re.ranged, if_neg (fun h => o5 h.1), if_pos o6, if_pos hg]
          clear o5 o6 hgw
          rw [HR.out]
          have dg : (wrap64 (p.gr - 1) != (bf : Int)) = false := by
            rw [IntWalk.wrap64_in _ ⟨by omega, by omega⟩, hg]; simp
          have hg1 : p.gr - 1 ≤ 1048577 := by omega
          have hg2 : 0 ≤ p.gr - 1 := by omega
          have dg2 : (p.gr - 1 != (bf : Int)) = false := by rw [hg]; simp
          clear hg
          go_enter Try.func49, Try.ntmps49
          go_wp2_with fail
          go_loopw [1, 6, 7, 8] (fun v i _ _ wr => ∃ k n : Nat, k ≤ xs.length ∧ i = .int .i64 k ∧ v = .int .i64 n ∧ Hid (Re.rangeds (xs.take k) (bf + 1) = some n) ∧ Below (w.heap.size + 1) (w.alloc (.cells #[.int .i64 p.op, .int .u64 p.set.a, .int .u64 p.set.b, .int .u64 p.set.c, .int .u64 p.set.d, .int .i64 p.lo, .int .i64 p.hi, .int .i64 p.gr, .slice ad xs.length cap] 28)) wr) (fun _ i _ _ _ => xs.length - (intOf i).toNat)
          case atStart => exact ⟨0, bf + 1, by omega, rfl, by go_num, rfl, Below.refl _ _⟩
          case round =>
            obtain ⟨k, n, hk, rfl, rfl, hn, hbw⟩ := hrel
            obtain ⟨hbx, hbl, hlt0⟩ := box_facts hbw
            have q := hbx.c9
            have HBW := hid hbw
            have HBL := hid hbl
            clear hbw hbx hbl
            have hgr := Re.rangeds_groups _ _ _ hn.out
            have hcl := Re.counts_le (· == 6) (xs.take k)
            have hct := Re.counts_take_le (fun _ => true) xs k
            by_cases hlt : k < xs.length
            · obtain ⟨b, o, p', ad', n', cap', rfl, HC, HI0, hbb⟩ := HAL.out.kid HBL.out k hlt
              have hst := Re.counts_take (fun _ => true) xs k xs[k] (by simp [hlt])
              have hst1 := Re.counts_take_le (fun _ => true) xs (k + 1)
              simp only [Re.sizes, Re.size] at *
              have HCA := hid (HIH.out xs[k] (by simp) wr _ n (HI0.out.below HBL.out) (by omega))
              have HT := hid (Re.rangeds_take xs k xs[k] (bf + 1) n (by simp [hlt]) hn.out)
              have HN := hid (Re.rangeds_none xs k xs[k] (bf + 1) n (by simp [hlt]) hn.out)
              have hnl : n ≤ 1048577 := by omega
              generalize hres : xs[k].ranged n = res at HCA
              have HRES := hid hres
              clear hst hst1 hgr hcl hct hres
              go_wp2_with (first | (with_reducible (refine wpList_load_agg rfl 28 _ rfl b (o + (k * 9)) rfl _ _ HC.out Try.underlying28 rfl (size_re9 _ _ _ _ _ _ _ _ _) ?_)))
              refine HCA.out.mono ?_
              rintro e w2 ⟨hb2, m, rfl, hm⟩
              have HB2 := hid hb2
              have HM := hid hm
              clear hb2 HCA hm
              cases res with
              | none =>
                go_wp2_with fail
                go_ret2
                refine ⟨HBL.out.trans (HB2.out.mono (by omega)), n, ?_, fun n' hn' => ?_⟩
                · rw [HN.out HRES.out]; rfl
                · rw [HN.out HRES.out] at hn'; cases hn'
              | some n2 =>
                obtain rfl : m = (n2 : Int) := HM.out n2 rfl
                go_wp2_with fail
                go_roundw
                case rel =>
                  refine ⟨k + 1, n2, by omega, by go_num, rfl, ?_, HBW.out.trans (HB2.out.mono (by omega))⟩
                  show _ = _
                  rw [HT.out, HRES.out]
                case measure => simp [intOf]; omega
            · obtain rfl : k = xs.length := by omega
              go_wp2_with fail
              go_ret2
              have hn2 := hn.out
              rw [List.take_length] at hn2
              refine ⟨HBL.out, n, by rw [hn2]; rfl, fun n' hn' => by rw [hn2] at hn'; cases hn'; rfl⟩
        · have HR : Hid (Re.ranged (.mk p xs) bf = none) := by show _ = _; rw [Re.ranged, if_neg (fun h => o5 h.1), if_pos o6, if_neg hg]
          rw [HR.out]
          have dg : (wrap64 (p.gr - 1) != (bf : Int)) = true := by
            rw [bne_iff_ne]
            intro h
            unfold I64 at hgw
            by_cases hlow : p.gr = -9223372036854775808
            · rw [hlow] at h
              have e : wrap64 (-9223372036854775808 - 1) = 9223372036854775807 := by unfold wrap64; decide
              rw [e] at h
              omega
            · rw [IntWalk.wrap64_in _ ⟨by omega, by omega⟩] at h
              omega
          clear o5 o6 hgw hg
          go_enter Try.func49, Try.ntmps49
          go_wp2_with fail
          go_ret2
          exact ⟨(Below.refl _ _).alloc (Nat.le_refl _) _, bf, rfl, fun n hn => by cases hn⟩
      · have d5 : (p.op == 5) = false := by simpa using o5
        have d6 : (p.op == 6) = false := by simpa using o6
        have HR : Hid (Re.ranged (.mk p xs) bf = Re.rangeds xs bf) := by show _ = _; rw [Re.ranged, if_neg (fun h => o5 h.1), if_neg o6]
        clear o5 o6
        rw [HR.out]
        go_enter Try.func49, Try.ntmps49
        go_wp2_with fail
        go_loopw [1, 6, 7, 8] (fun v i _ _ wr => ∃ k n : Nat, k ≤ xs.length ∧ i = .int .i64 k ∧ v = .int .i64 n ∧ Hid (Re.rangeds (xs.take k) (bf) = some n) ∧ Below (w.heap.size + 1) (w.alloc (.cells #[.int .i64 p.op, .int .u64 p.set.a, .int .u64 p.set.b, .int .u64 p.set.c, .int .u64 p.set.d, .int .i64 p.lo, .int .i64 p.hi, .int .i64 p.gr, .slice ad xs.length cap] 28)) wr) (fun _ i _ _ _ => xs.length - (intOf i).toNat)
        case atStart => exact ⟨0, bf, by omega, rfl, rfl, rfl, Below.refl _ _⟩
        case round =>
          obtain ⟨k, n, hk, rfl, rfl, hn, hbw⟩ := hrel
          obtain ⟨hbx, hbl, hlt0⟩ := box_facts hbw
          have q := hbx.c9
          have HBW := hid hbw
          have HBL := hid hbl
          clear hbw hbx hbl
          have hgr := Re.rangeds_groups _ _ _ hn.out
          have hcl := Re.counts_le (· == 6) (xs.take k)
          have hct := Re.counts_take_le (fun _ => true) xs k
          by_cases hlt : k < xs.length
          · obtain ⟨b, o, p', ad', n', cap', rfl, HC, HI0, hbb⟩ := HAL.out.kid HBL.out k hlt
            have hst := Re.counts_take (fun _ => true) xs k xs[k] (by simp [hlt])
            have hst1 := Re.counts_take_le (fun _ => true) xs (k + 1)
            simp only [Re.sizes, Re.size] at *
            have HCA := hid (HIH.out xs[k] (by simp) wr _ n (HI0.out.below HBL.out) (by omega))
            have HT := hid (Re.rangeds_take xs k xs[k] (bf) n (by simp [hlt]) hn.out)
            have HN := hid (Re.rangeds_none xs k xs[k] (bf) n (by simp [hlt]) hn.out)
            have hnl : n ≤ 1048577 := by omega
            generalize hres : xs[k].ranged n = res at HCA
            have HRES := hid hres
            clear hst hst1 hgr hcl hct hres
            go_wp2_with (first | (with_reducible (refine wpList_load_agg rfl 28 _ rfl b (o + (k * 9)) rfl _ _ HC.out Try.underlying28 rfl (size_re9 _ _ _ _ _ _ _ _ _) ?_)))
            refine HCA.out.mono ?_
            rintro e w2 ⟨hb2, m, rfl, hm⟩
            have HB2 := hid hb2
            have HM := hid hm
            clear hb2 HCA hm
            cases res with
            | none =>
              go_wp2_with fail
              go_ret2
              refine ⟨HBL.out.trans (HB2.out.mono (by omega)), n, ?_, fun n' hn' => ?_⟩
              · rw [HN.out HRES.out]; rfl
              · rw [HN.out HRES.out] at hn'; cases hn'
            | some n2 =>
              obtain rfl : m = (n2 : Int) := HM.out n2 rfl
              go_wp2_with fail
              go_roundw
              case rel =>
                refine ⟨k + 1, n2, by omega, by go_num, rfl, ?_, HBW.out.trans (HB2.out.mono (by omega))⟩
                show _ = _
                rw [HT.out, HRES.out]
              case measure => simp [intOf]; omega
          · obtain rfl : k = xs.length := by omega
            go_wp2_with fail
            go_ret2
            have hn2 := hn.out
            rw [List.take_length] at hn2
            refine ⟨HBL.out, n, by rw [hn2]; rfl, fun n' hn' => by rw [hn2] at hn'; cases hn'; rfl⟩
end Go.Proofs.Ytnnocekencaadaa
