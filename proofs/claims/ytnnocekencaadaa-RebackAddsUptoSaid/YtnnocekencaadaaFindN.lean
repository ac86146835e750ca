/- Reback: the walk of a search at several offsets. -/
import Derived.Test.YtnnocekencaadaaBegin
namespace Go.Proofs.Ytnnocekencaadaa
open Go.RowKit
attribute [local go_sem] gives givesUpon

/-- The error of an outcome. -/
def Out.errno : Out → Int
  | .over => 11
  | _ => 0
/-- How a search may end, with B tries in all. -/
def FindPost (B : Nat) (E : Out → Nat → Prop) (w : World) (e : Ending) (w' : World) : Prop :=
  ∃ (o : Out) (m : Nat) (v : Value), E o m ∧ m ≤ B ∧ e = .returned (.tuple #[.agg #[v], .bool o.isFound, .int .i64 ((B - m : Nat) : Int), .int .i64 o.errno]) ∧ Below w.heap.size w w' ∧ (∀ l, o = .found l → SpB (w.heap.size ≤ ·) w' v l) ∧ (o.isFound = false → v = .slice none 0 0)
-- def BX := [.int .i64 p.op, .int .u64 p.set.a, .int .u64 p.set.b, .int .u64 p.set.c, .int .u64 p.set.d, .int .i64 p.lo, .int .i64 p.hi, .int .i64 p.gr, .slice ad xs.length cp]
-- def W2 := ((w.alloc (.cells #[.int .i64 p.op, .int .u64 p.set.a, .int .u64 p.set.b, .int .u64 p.set.c, .int .u64 p.set.d, .int .i64 p.lo, .int .i64 p.hi, .int .i64 p.gr, .slice ad xs.length cp] 28)).alloc (.cells #[.slice none 0 0] 35))
-- def CC := (⟨w, w.heap.size + 2, w.heap.size + 3, 0, (Re.mk p xs).groups, B, s, lines⟩ : Ctx)
/-- What the loop over offsets keeps: the context's search lies behind w. -/
def FindL (C : Ctx) (w : World) (n : Nat) (e : Re) (from_ d0 : Nat) (BXL : List Value) (i d : Nat) (ov : Bool) (wr : World) : Prop :=
  (Row wr w.heap.size BXL 28 ∧ Row wr (w.heap.size + 1) [.slice none 0 0] 35) ∧ Below w.heap.size w wr ∧
  (ov = false → ∃ n', n' ≤ n ∧ Rest C n' false wr ∧ ∀ o m, EvFind C.str C.lines e C.N i d n' o m → EvFind C.str C.lines e C.N from_ d0 n o m) ∧ (ov = true → Rest C 0 true wr ∧ EvFind C.str C.lines e C.N from_ d0 n .over 0)

set_option maxRecDepth 100000 in
set_option maxHeartbeats 16000000 in
theorem find_any (w : World) (p : Pay) (xs : List Re) (ad : Option Addr) (cp from_ to_ : Nat) (s : ByteArray) (lines : Bool) (budget : Int) (B : Nat) (hin : (Re.mk p xs).In w [.int .i64 p.op, .int .u64 p.set.a, .int .u64 p.set.b, .int .u64 p.set.c, .int .u64 p.set.d, .int .i64 p.lo, .int .i64 p.hi, .int .i64 p.gr, .slice ad xs.length cp]) (hok : (Re.mk p xs).ok (Re.mk p xs).groups) (hsz : (Re.mk p xs).size ≤ 1048576) (hgr : (Re.mk p xs).groups ≤ 9) (hto : to_ ≤ s.size) (hft : from_ ≤ to_) (hs : s.size ≤ 1000000) (hB : max budget 0 = (B : Int)) (hB2 : B ≤ 20000) :
    Calls Try.prog 18 #[.agg #[.int .i64 p.op, .int .u64 p.set.a, .int .u64 p.set.b, .int .u64 p.set.c, .int .u64 p.set.d, .int .i64 p.lo, .int .i64 p.hi, .int .i64 p.gr, .slice ad xs.length cp], .string s, .int .i64 from_, .int .i64 to_, .bool lines, .int .i64 budget] w (FindPost B (EvFind s.data.toList lines (.mk p xs) (Re.mk p xs).groups from_ (to_ + 1 - from_) B) w) := by
  have R0 : Row ((w.alloc (.cells #[.int .i64 p.op, .int .u64 p.set.a, .int .u64 p.set.b, .int .u64 p.set.c, .int .u64 p.set.d, .int .i64 p.lo, .int .i64 p.hi, .int .i64 p.gr, .slice ad xs.length cp] 28)).alloc (.cells #[.slice none 0 0] 35)) w.heap.size [.int .i64 p.op, .int .u64 p.set.a, .int .u64 p.set.b, .int .u64 p.set.c, .int .u64 p.set.d, .int .i64 p.lo, .int .i64 p.hi, .int .i64 p.gr, .slice ad xs.length cp] 28 := (Row.new rfl).alloc _
  have R1 : Row ((w.alloc (.cells #[.int .i64 p.op, .int .u64 p.set.a, .int .u64 p.set.b, .int .u64 p.set.c, .int .u64 p.set.d, .int .i64 p.lo, .int .i64 p.hi, .int .i64 p.gr, .slice ad xs.length cp] 28)).alloc (.cells #[.slice none 0 0] 35)) (w.heap.size + 1) [.slice none 0 0] 35 := Row.new (by simp)
  have hBl : Below w.heap.size w ((w.alloc (.cells #[.int .i64 p.op, .int .u64 p.set.a, .int .u64 p.set.b, .int .u64 p.set.c, .int .u64 p.set.d, .int .i64 p.lo, .int .i64 p.hi, .int .i64 p.gr, .slice ad xs.length cp] 28)).alloc (.cells #[.slice none 0 0] 35)) := ((Below.refl w.heap.size w).alloc (Nat.le_refl _) _).alloc (by simp) _
  have HRR := hid (⟨R0, R1⟩ : _ ∧ _)
  have HBL := hid hBl
  have HIN := hid hin
  have HOK := hid hok
  have HSZ := hid hsz
  have HBEG := hid (begin_any ((w.alloc (.cells #[.int .i64 p.op, .int .u64 p.set.a, .int .u64 p.set.b, .int .u64 p.set.c, .int .u64 p.set.d, .int .i64 p.lo, .int .i64 p.hi, .int .i64 p.gr, .slice ad xs.length cp] 28)).alloc (.cells #[.slice none 0 0] 35)) w s lines budget B (Re.mk p xs).groups 0 hB)
  have q0 := R0.c9
  clear hin hok R0 R1 hBl hsz hB
  go_enter Try.func18, Try.ntmps18
  go_wp2_with fail
  refine HBEG.out.mono ?_
  rintro e w1 ⟨rfl, hm, hmb, hb1⟩
  have hz : (((w.alloc (.cells #[.int .i64 p.op, .int .u64 p.set.a, .int .u64 p.set.b, .int .u64 p.set.c, .int .u64 p.set.d, .int .i64 p.lo, .int .i64 p.hi, .int .i64 p.gr, .slice ad xs.length cp] 28)).alloc (.cells #[.slice none 0 0] 35))).heap.size = w.heap.size + 2 := by simp
  rw [hz] at hm hmb hb1
  have hb2 : Below w.heap.size w w1 := HBL.out.trans (hb1.mono (by omega))
  have hr1 := HRR.out.1.below hb1 (by omega)
  have hr2 := HRR.out.2.below hb1 (by omega)
  have HRS : Hid (Rest (⟨w, w.heap.size + 2, w.heap.size + 3, 0, (Re.mk p xs).groups, B, s, lines⟩ : Ctx) B false w1) := ⟨hb2, by show Row _ _ (Ctx.cells _ ((B - B : Nat) : Int) false) _; rw [Nat.sub_self]; exact hm, hmb, by show w.heap.size ≤ w.heap.size + 2; omega, Nat.le_refl _, hB2, hs, hgr⟩
  have HR1 := hid (⟨hr1, hr2⟩ : _ ∧ _)
  have HB2 := hid hb2
  have q1 := hr1.c9
  clear HBEG q0 hm hmb hb1 hb2 hr1 hr2 hz
  -- REST
  go_wp2_with fail
  refine (Groups_any (.mk p xs) _ _ (HIN.out.below HB2.out) HSZ.out).mono ?_
  rintro e w2 ⟨rfl, hb3⟩
  have HX2 := hid (⟨⟨HR1.out.1.below hb3 HR1.out.1.lt, HR1.out.2.below hb3 HR1.out.2.lt⟩, HB2.out.trans (hb3.mono HB2.out.size), HRS.out.later hb3⟩ : (Row w2 _ _ _ ∧ Row w2 _ _ _) ∧ Below _ _ w2 ∧ Rest _ _ _ w2)
  have hsl : s.data.toList.length = s.size := by rw [Array.length_toList]; rfl
  have HSL := hid hsl
  have hto2 : (to_ : Int) ≤ 1000000 := by omega
  clear hb3 HR1 HB2 HRS q1 hsl
  go_wp2_with fail
  go_loopw [18] (fun v wr => ∃ (i : Nat) (ov : Bool), v = .int .i64 i ∧ from_ ≤ i ∧ i ≤ to_ + 1 ∧ Hid (FindL (⟨w, w.heap.size + 2, w.heap.size + 3, 0, (Re.mk p xs).groups, B, s, lines⟩ : Ctx) w B (.mk p xs) from_ (to_ + 1 - from_) [.int .i64 p.op, .int .u64 p.set.a, .int .u64 p.set.b, .int .u64 p.set.c, .int .u64 p.set.d, .int .i64 p.lo, .int .i64 p.hi, .int .i64 p.gr, .slice ad xs.length cp] i (to_ + 1 - i) ov wr)) (fun v _ => to_ + 1 - (intOf v).toNat)
  case atStart =>
    exact ⟨from_, false, rfl, Nat.le_refl _, by omega, HX2.out.1, HX2.out.2.1, fun _ => ⟨B, Nat.le_refl _, HX2.out.2.2, fun o m he => he⟩, fun e => (by cases e)⟩
  case round =>
    obtain ⟨i, ov, rfl, hfi, hit, HL⟩ := hrel
    cases ov with
    | true =>
      obtain ⟨hr, hbw, -, hov⟩ := HL.out
      obtain ⟨hst, hev⟩ := hov rfl
      have HX := hid (⟨hr, hbw, hst, hev⟩ : _ ∧ _ ∧ _ ∧ _)
      have pc := hst.c
      have p0 := hr.1.c9
      clear hr hbw hov hst hev HL HX2
      by_cases hle : i ≤ to_
      all_goals
        have hleI : (i : Int) ≤ (to_ : Int) ∨ ¬ (i : Int) ≤ (to_ : Int) := by omega
        rcases hleI with hleI | hleI
        all_goals
          first
          | (exfalso; omega)
          | skip
        go_wp2_with fail
        clear pc p0
        generalize hwz : wr = wz at *
        have hc := HX.out.2.2.1.c
        have hx0 := HX.out.1.2.cell 0
        have hx1 := HX.out.1.2.free 0
        go_region
        go_wp2_with fail
        refine bodyPost_ret (results_cell_tmp3 rfl _ _ (w.heap.size + 1) _ _ _ _ rfl (show _ = some (Obj.cells (List.toArray _) _) from (HX.out.1.2.set 0 (.slice none 0 0)).drew) Try.underlying35 rfl (by kernel_rfl)) rfl ?_
        exact ⟨.over, 0, _, HX.out.2.2.2, HX.out.2.2.1.nB, rfl, (HX.out.2.1.setCell (by simp) _).drew, fun l hl => (by cases hl), fun _ => rfl⟩
    | false =>
      obtain ⟨hr, hbw, hpr, -⟩ := HL.out
      obtain ⟨n', hn', hst, hrest⟩ := hpr rfl
      have pc := hst.c
      have p0 := hr.1.c9
      by_cases hle : i ≤ to_
      · have HX := hid (⟨hr, hbw, hst, hrest⟩ : _ ∧ _ ∧ _ ∧ _)
        have hleI : (i : Int) ≤ (to_ : Int) := by omega
        have hwi : IntKind.i64.wrap ((i : Int) + 1) = (i : Int) + 1 := by rw [IntKind.wrap_i64]; omega
        clear hr hbw hpr hst hrest HL HX2
        go_wp2_with fail
        refine (at_any (C := (⟨w, w.heap.size + 2, w.heap.size + 3, 0, (Re.mk p xs).groups, B, s, lines⟩ : Ctx)) wr n' p xs ad cp i HIN.out HOK.out (by show i ≤ s.size; omega) HX.out.2.2.1).mono ?_
        rintro e w' ⟨o', m, v, he, rfl, hst', hbut', hf1, hf2⟩
        have hbw' : Below w.heap.size w w' := HX.out.2.1.trans (hbut'.below HX.out.2.1.size (fun k hk => by rw [List.mem_singleton.1 hk]; show w.heap.size ≤ w.heap.size + 2; omega))
        have hr' : (Row w' w.heap.size [.int .i64 p.op, .int .u64 p.set.a, .int .u64 p.set.b, .int .u64 p.set.c, .int .u64 p.set.d, .int .i64 p.lo, .int .i64 p.hi, .int .i64 p.gr, .slice ad xs.length cp] 28 ∧ Row w' (w.heap.size + 1) [.slice none 0 0] 35) := ⟨HX.out.1.1.but hbut' (by show _ ∉ [w.heap.size + 2]; simp), HX.out.1.2.but hbut' (by show _ ∉ [w.heap.size + 2]; simp)⟩
        have hwr := HX.out.2.1.size
        have hll : (EvAt s.data.toList lines (.mk p xs) (Re.mk p xs).groups i (s.data.toList.length + 1 - i) n' o' m) := by rw [HSL.out]; exact he
        have hdd : to_ + 1 - i = (to_ - i) + 1 := by omega
        have hmn := (EvAt.left _ _ _ _ he).1
        cases o' with
        | found l =>
          have hf := hf1 l rfl
          obtain ⟨va, vc, rfl⟩ := hf.form
          have HXF := hid (⟨hr', hbw', hst', hf.mono (fun b _ hb => Nat.le_trans hwr hb), HX.out.2.2.2 _ _ (by rw [hdd]; exact .hit hll (by intro h; cases h))⟩ : _ ∧ _ ∧ _ ∧ SpB (w.heap.size ≤ ·) _ _ _ ∧ _)
          have q5 := hst'.c
          have hsz := hr'.2.lt
          clear he hst' hbut' hf1 hf2 hbw' hr' hll hf pc p0
          simp only [Out.isFound]
          go_wp2_with fail
          have hal : Below w'.heap.size w' (w'.alloc (.cells #[.slice va l.length vc] 35)) := (Below.refl _ _).alloc (Nat.le_refl _) _
          have HAL := hid hal
          clear q5
          have HZ := hid (⟨(Row.new (w := w') (cs := [.slice va l.length vc]) (T := 35) rfl), HXF.out.1.2.alloc (.cells #[.slice va l.length vc] 35), HXF.out.2.2.1.later hal⟩ : _ ∧ _ ∧ _)
          have HWZ := hid (⟨HXF.out.2.1.trans (hal.mono HXF.out.2.1.size), HXF.out.2.2.2.1.below hal⟩ : _ ∧ SpB (w.heap.size ≤ ·) _ _ _)
          clear hal
          generalize hwz : w'.alloc (.cells #[.slice va l.length vc] 35) = wz at *
          have hc := HZ.out.2.2.c
          have hx0 := HZ.out.2.1.cell 0
          have hx1 := HZ.out.2.1.free 0
          have hx2 := HZ.out.1.cell 0
          clear hwz
          go_region
          go_wp2_with fail
          refine bodyPost_ret (results_cell_tmp3 rfl _ _ (w.heap.size + 1) _ _ _ _ rfl (show _ = some (Obj.cells (List.toArray _) _) from (HZ.out.2.1.set 0 (.slice va l.length vc)).drew) Try.underlying35 rfl (by kernel_rfl)) rfl ?_
          refine ⟨.found l, m, _, HXF.out.2.2.2.2, by omega, rfl, (HWZ.out.1.setCell (by simp) _).drew, fun l' hl' => ?_, fun h => (by cases h)⟩
          injection hl' with hl'
          subst hl'
          rcases HWZ.out.2 with ⟨h0, h1⟩ | ⟨h0, b, c, more, e, hb, hr⟩
          · exact .inl ⟨h0, h1⟩
          · exact .inr ⟨h0, b, c, more, e, hb, (hr.other (fun e2 => by subst e2; exact absurd (hr.typed HZ.out.2.1) (by decide)) _ _).drew⟩
        | fail =>
          obtain rfl := hf2 rfl
          have HXF := hid (⟨hr', hbw', hst', fun o2 m2 (h2 : EvFind s.data.toList lines (.mk p xs) (Re.mk p xs).groups (i + 1) (to_ - i) m o2 m2) => HX.out.2.2.2 o2 m2 (by rw [hdd]; exact .miss hll h2)⟩ : _ ∧ _ ∧ _ ∧ _)
          have hsz := hr'.2.lt
          clear he hst' hbut' hf1 hf2 hbw' hr' hll pc p0
          simp only [Out.isFound]
          go_wp2_with fail
          have hal : Below w'.heap.size w' (w'.alloc (.cells #[.slice none 0 0] 35)) := (Below.refl _ _).alloc (Nat.le_refl _) _
          refine ⟨⟨i + 1, false, by go_num, by omega, by omega, ⟨HXF.out.1.1.alloc _, HXF.out.1.2.alloc _⟩, HXF.out.2.1.trans (hal.mono HXF.out.2.1.size), fun _ => ⟨m, by omega, HXF.out.2.2.1.later hal, fun o2 m2 h2 => HXF.out.2.2.2 o2 m2 (by rw [show to_ + 1 - (i + 1) = to_ - i by omega] at h2; exact h2)⟩, fun e => (by cases e)⟩, ?_⟩
          simp [intOf]; omega
        | over =>
          obtain rfl := hf2 rfl
          have h0 := (EvAt.left _ _ _ _ he).2 rfl
          subst h0
          have HXF := hid (⟨hr', hbw', hst', HX.out.2.2.2 .over 0 (by rw [hdd]; exact .hit hll (by intro h; cases h))⟩ : _ ∧ _ ∧ _ ∧ _)
          have hsz := hr'.2.lt
          clear he hst' hbut' hf1 hf2 hbw' hr' hll pc p0
          simp only [Out.isFound]
          go_wp2_with fail
          have hal : Below w'.heap.size w' (w'.alloc (.cells #[.slice none 0 0] 35)) := (Below.refl _ _).alloc (Nat.le_refl _) _
          refine ⟨⟨i + 1, true, by go_num, by omega, by omega, ⟨HXF.out.1.1.alloc _, HXF.out.1.2.alloc _⟩, HXF.out.2.1.trans (hal.mono HXF.out.2.1.size), fun e => (by cases e), fun _ => ⟨HXF.out.2.2.1.later hal, HXF.out.2.2.2⟩⟩, ?_⟩
          simp [intOf]; omega
      · have HX := hid (⟨hr, hbw, hst, hrest _ _ (by rw [show to_ + 1 - i = 0 by omega]; exact .none)⟩ : _ ∧ _ ∧ _ ∧ _)
        have hleI : ¬ (i : Int) ≤ (to_ : Int) := by omega
        clear hr hbw hpr hst hrest HL HX2
        go_wp2_with fail
        clear pc p0
        generalize hwz : wr = wz at *
        have hc := HX.out.2.2.1.c
        have hx0 := HX.out.1.2.cell 0
        have hx1 := HX.out.1.2.free 0
        go_region
        go_wp2_with fail
        refine bodyPost_ret (results_cell_tmp3 rfl _ _ (w.heap.size + 1) _ _ _ _ rfl (show _ = some (Obj.cells (List.toArray _) _) from (HX.out.1.2.set 0 (.slice none 0 0)).drew) Try.underlying35 rfl (by kernel_rfl)) rfl ?_
        exact ⟨.fail, n', _, HX.out.2.2.2, HX.out.2.2.1.nB, rfl, (HX.out.2.1.setCell (by simp) _).drew, fun l hl => (by cases hl), fun _ => rfl⟩
end Go.Proofs.Ytnnocekencaadaa
