/- Reback: a new search. -/
import Derived.Test.YthnpbopnpdlmnaaD33
import Derived.Deep.DeepCutAuto
import Derived.Deep.CutBlock
import Derived.Laws.EntriesVeiled
import Derived.Test.YthnpbopnpdlmnaaD20
import Derived.Test.YthnpbopnpdlmnaaD06
import Derived.Test.YthnpbopnpdlmnaaD05
namespace Go.Proofs.Ythnpbopnpdlmnaa
open Go.RowKit
attribute [local go_sem] gives givesUpon

theorem Row.f14 {w : World} {B : Nat} {cs : List Value} {T : TypeId} (h : Row w B cs T) : w.frozen? ⟨B, 5, none⟩ = false ∧ w.frozen? ⟨B, 6, none⟩ = false ∧ w.frozen? ⟨B, 7, none⟩ = false ∧ w.frozen? ⟨B, 8, none⟩ = false ∧ w.frozen? ⟨B, 9, none⟩ = false ∧ w.frozen? ⟨B, 10, none⟩ = false ∧ w.frozen? ⟨B, 11, none⟩ = false ∧ w.frozen? ⟨B, 12, none⟩ = false ∧ w.frozen? ⟨B, 13, none⟩ = false :=
  ⟨h.free 5, h.free 6, h.free 7, h.free 8, h.free 9, h.free 10, h.free 11, h.free 12, h.free 13⟩
theorem Row.k14 {w : World} {B : Nat} {a b c d e f0 f1 f2 f3 f4 f5 f6 f7 f8 : Value} {T : TypeId} (h : Row w B [a, b, c, d, e, f0, f1, f2, f3, f4, f5, f6, f7, f8] T) : w.cell? ⟨B, 5, none⟩ = some f0 ∧ w.cell? ⟨B, 6, none⟩ = some f1 ∧ w.cell? ⟨B, 7, none⟩ = some f2 ∧ w.cell? ⟨B, 8, none⟩ = some f3 ∧ w.cell? ⟨B, 9, none⟩ = some f4 ∧ w.cell? ⟨B, 10, none⟩ = some f5 ∧ w.cell? ⟨B, 11, none⟩ = some f6 ∧ w.cell? ⟨B, 12, none⟩ = some f7 ∧ w.cell? ⟨B, 13, none⟩ = some f8 :=
  ⟨h.cell 5, h.cell 6, h.cell 7, h.cell 8, h.cell 9, h.cell 10, h.cell 11, h.cell 12, h.cell 13⟩
set_option maxRecDepth 100000 in
set_option maxHeartbeats 8000000 in
theorem begin_any (w w0 : World) (s : ByteArray) (lines : Bool) (budget : Int) (B N G : Nat) (hB : max budget 0 = (B : Int)) :
    Calls Try.prog 59 #[.string s, .bool lines, .int .i64 budget] w fun e w' => e = .returned (.pointer (some ⟨w.heap.size, 0, none⟩)) ∧ Row w' w.heap.size ((⟨w0, w.heap.size, w.heap.size + 1, G, N, B, s, lines⟩ : Ctx).cells 0 false) 115 ∧ Row w' (w.heap.size + 1) [.pointer (some ⟨w.heap.size, 0, none⟩)] 109 ∧ Below w.heap.size w w' := by
  have key : ∀ b0 : Int, ∀ W : World, W = ((w.alloc (.cells #[.string s, .bool lines, .int .i64 0, .int .i64 b0, .bool false, .nilFunc, .nilFunc, .nilFunc, .nilFunc, .nilFunc, .nilFunc, .nilFunc, .nilFunc, .nilFunc] 115)).alloc (.cells #[.pointer (some ⟨w.heap.size, 0, none⟩)] 109)) → Row W w.heap.size [.string s, .bool lines, .int .i64 0, .int .i64 b0, .bool false, .nilFunc, .nilFunc, .nilFunc, .nilFunc, .nilFunc, .nilFunc, .nilFunc, .nilFunc, .nilFunc] 115 ∧ Row W (w.heap.size + 1) [.pointer (some ⟨w.heap.size, 0, none⟩)] 109 ∧ Below w.heap.size w W := by
    intro b0 W e
    subst e
    exact ⟨(Row.new rfl).alloc _, Row.new (by simp), ((Below.refl _ w).alloc (Nat.le_refl _) _).alloc (by simp) _⟩
  have HB := hid hB
  clear hB
  by_cases hneg : budget < 0
  · go_enter Try.func59, Try.ntmps59
    go_upto_region 2 with fail
    have hk := key 0 _ rfl
    have hbb : Hid (0 = (B : Int)) := by show _ = _; have := HB.out; omega
    clear key
    generalize ((w.alloc (.cells #[.string s, .bool lines, .int .i64 0, .int .i64 0, .bool false, .nilFunc, .nilFunc, .nilFunc, .nilFunc, .nilFunc, .nilFunc, .nilFunc, .nilFunc, .nilFunc] 115)).alloc (.cells #[.pointer (some ⟨w.heap.size, 0, none⟩)] 109)) = W at *
    obtain ⟨h1, h2, h3⟩ := hk
    have q1 := h1.f14
    have q2 := h1.k14
    have q3 := h2.cell 0
    have HX := hid (⟨h1, h2, h3⟩ : _ ∧ _ ∧ _)
    clear h1 h2 h3
    go_wp2_with fail
    go_ret
    obtain ⟨h1, h2, h3⟩ := HX.out
    refine ⟨rfl, ?_, ?_, ?_⟩
    · have := ((((((((h1.set 5 (.func (.func 75) #[] #[])).set 6 (.func (.func 76) #[] #[.pointer (some ⟨w.heap.size + 1, 0, none⟩)])).set 7 (.func (.func 79) #[] #[.pointer (some ⟨w.heap.size + 1, 0, none⟩)])).set 8 (.func (.func 81) #[.pointer (some ⟨w.heap.size, 0, none⟩)] #[])).set 9 (.func (.func 82) #[] #[.pointer (some ⟨w.heap.size + 1, 0, none⟩)])).set 10 (.func (.func 85) #[.pointer (some ⟨w.heap.size, 0, none⟩)] #[])).set 11 (.func (.func 77) #[] #[.pointer (some ⟨w.heap.size + 1, 0, none⟩)])).set 12 (.func (.func 78) #[] #[.pointer (some ⟨w.heap.size + 1, 0, none⟩)])).set 13 (.func (.func 86) #[.pointer (some ⟨w.heap.size, 0, none⟩)] #[])
      have hB0 : B = 0 := by have := hbb.out; omega
      rw [hB0]
      exact this
    · have hne : w.heap.size + 1 ≠ w.heap.size := by omega
      exact ((((((((h2.other hne _ _).other hne _ _).other hne _ _).other hne _ _).other hne _ _).other hne _ _).other hne _ _).other hne _ _).other hne _ _
    · exact ((((((((h3.setCell (Nat.le_refl _) _).setCell (Nat.le_refl _) _).setCell (Nat.le_refl _) _).setCell (Nat.le_refl _) _).setCell (Nat.le_refl _) _).setCell (Nat.le_refl _) _).setCell (Nat.le_refl _) _).setCell (Nat.le_refl _) _).setCell (Nat.le_refl _) _
  · go_enter Try.func59, Try.ntmps59
    go_upto_region 2 with fail
    have hk := key budget _ rfl
    have hbb : Hid (budget = (B : Int)) := by show _ = _; have := HB.out; omega
    clear key
    generalize ((w.alloc (.cells #[.string s, .bool lines, .int .i64 0, .int .i64 budget, .bool false, .nilFunc, .nilFunc, .nilFunc, .nilFunc, .nilFunc, .nilFunc, .nilFunc, .nilFunc, .nilFunc] 115)).alloc (.cells #[.pointer (some ⟨w.heap.size, 0, none⟩)] 109)) = W at *
    obtain ⟨h1, h2, h3⟩ := hk
    have q1 := h1.f14
    have q2 := h1.k14
    have q3 := h2.cell 0
    have HX := hid (⟨h1, h2, h3⟩ : _ ∧ _ ∧ _)
    clear h1 h2 h3
    go_wp2_with fail
    go_ret
    obtain ⟨h1, h2, h3⟩ := HX.out
    refine ⟨rfl, ?_, ?_, ?_⟩
    · have := ((((((((h1.set 5 (.func (.func 75) #[] #[])).set 6 (.func (.func 76) #[] #[.pointer (some ⟨w.heap.size + 1, 0, none⟩)])).set 7 (.func (.func 79) #[] #[.pointer (some ⟨w.heap.size + 1, 0, none⟩)])).set 8 (.func (.func 81) #[.pointer (some ⟨w.heap.size, 0, none⟩)] #[])).set 9 (.func (.func 82) #[] #[.pointer (some ⟨w.heap.size + 1, 0, none⟩)])).set 10 (.func (.func 85) #[.pointer (some ⟨w.heap.size, 0, none⟩)] #[])).set 11 (.func (.func 77) #[] #[.pointer (some ⟨w.heap.size + 1, 0, none⟩)])).set 12 (.func (.func 78) #[] #[.pointer (some ⟨w.heap.size + 1, 0, none⟩)])).set 13 (.func (.func 86) #[.pointer (some ⟨w.heap.size, 0, none⟩)] #[])
      rw [hbb.out] at this
      exact this
    · have hne : w.heap.size + 1 ≠ w.heap.size := by omega
      exact ((((((((h2.other hne _ _).other hne _ _).other hne _ _).other hne _ _).other hne _ _).other hne _ _).other hne _ _).other hne _ _).other hne _ _
    · exact ((((((((h3.setCell (Nat.le_refl _) _).setCell (Nat.le_refl _) _).setCell (Nat.le_refl _) _).setCell (Nat.le_refl _) _).setCell (Nat.le_refl _) _).setCell (Nat.le_refl _) _).setCell (Nat.le_refl _) _).setCell (Nat.le_refl _) _).setCell (Nat.le_refl _) _
end Go.Proofs.Ythnpbopnpdlmnaa

/- Reback: the walk of a search at several offsets. -/
namespace Go.Proofs.Ythnpbopnpdlmnaa
open Go.RowKit
attribute [local go_sem] gives givesUpon

def Out.errno : Out → Int
  | .over => 11
  | _ => 0
def FindPost (B : Nat) (E : Out → Nat → Prop) (w : World) (e : Ending) (w' : World) : Prop :=
  ∃ (o : Out) (m : Nat) (v : Value), E o m ∧ m ≤ B ∧ e = .returned (.tuple #[.agg #[v], .bool o.isFound, .int .i64 ((B - m : Nat) : Int), .int .i64 o.errno]) ∧ Below w.heap.size w w' ∧ (∀ l, o = .found l → SpB (w.heap.size ≤ ·) w' v l) ∧ (o.isFound = false → v = .slice none 0 0)
def FindL (C : Ctx) (w : World) (n : Nat) (e : Re) (from_ d0 : Nat) (BXL : List Value) (i d : Nat) (ov : Bool) (wr : World) : Prop :=
  (Row wr w.heap.size BXL 28 ∧ Row wr (w.heap.size + 1) [.slice none 0 0] 43) ∧ Below w.heap.size w wr ∧
  (ov = false → ∃ n', n' ≤ n ∧ Rest C n' false wr ∧ ∀ o m, EvFind C.str C.lines e C.N i d n' o m → EvFind C.str C.lines e C.N from_ d0 n o m) ∧ (ov = true → Rest C 0 true wr ∧ EvFind C.str C.lines e C.N from_ d0 n .over 0)

set_option maxRecDepth 100000 in
set_option maxHeartbeats 16000000 in
theorem find_any (w : World) (p : Pay) (xs : List Re) (ad : Option Addr) (cp from_ to_ : Nat) (s : ByteArray) (lines : Bool) (budget : Int) (B : Nat) (hin : (Re.mk p xs).In w [.int .i64 p.op, .int .u64 p.set.a, .int .u64 p.set.b, .int .u64 p.set.c, .int .u64 p.set.d, .int .i64 p.lo, .int .i64 p.hi, .int .i64 p.gr, .slice ad xs.length cp]) (hok : (Re.mk p xs).ok (Re.mk p xs).groups) (hsz : (Re.mk p xs).size ≤ 1048576) (hgr : (Re.mk p xs).groups ≤ 9) (hto : to_ ≤ s.size) (hft : from_ ≤ to_) (hs : s.size ≤ 1000000) (hB : max budget 0 = (B : Int)) (hB2 : B ≤ 20000) :
    Calls Try.prog 34 #[.agg #[.int .i64 p.op, .int .u64 p.set.a, .int .u64 p.set.b, .int .u64 p.set.c, .int .u64 p.set.d, .int .i64 p.lo, .int .i64 p.hi, .int .i64 p.gr, .slice ad xs.length cp], .string s, .int .i64 from_, .int .i64 to_, .bool lines, .int .i64 budget] w (FindPost B (EvFind s.data.toList lines (.mk p xs) (Re.mk p xs).groups from_ (to_ + 1 - from_) B) w) := by
  have R0 : Row ((w.alloc (.cells #[.int .i64 p.op, .int .u64 p.set.a, .int .u64 p.set.b, .int .u64 p.set.c, .int .u64 p.set.d, .int .i64 p.lo, .int .i64 p.hi, .int .i64 p.gr, .slice ad xs.length cp] 28)).alloc (.cells #[.slice none 0 0] 43)) w.heap.size [.int .i64 p.op, .int .u64 p.set.a, .int .u64 p.set.b, .int .u64 p.set.c, .int .u64 p.set.d, .int .i64 p.lo, .int .i64 p.hi, .int .i64 p.gr, .slice ad xs.length cp] 28 := (Row.new rfl).alloc _
  have R1 : Row ((w.alloc (.cells #[.int .i64 p.op, .int .u64 p.set.a, .int .u64 p.set.b, .int .u64 p.set.c, .int .u64 p.set.d, .int .i64 p.lo, .int .i64 p.hi, .int .i64 p.gr, .slice ad xs.length cp] 28)).alloc (.cells #[.slice none 0 0] 43)) (w.heap.size + 1) [.slice none 0 0] 43 := Row.new (by simp)
  have hBl : Below w.heap.size w ((w.alloc (.cells #[.int .i64 p.op, .int .u64 p.set.a, .int .u64 p.set.b, .int .u64 p.set.c, .int .u64 p.set.d, .int .i64 p.lo, .int .i64 p.hi, .int .i64 p.gr, .slice ad xs.length cp] 28)).alloc (.cells #[.slice none 0 0] 43)) := ((Below.refl w.heap.size w).alloc (Nat.le_refl _) _).alloc (by simp) _
  have HRR := hid (⟨R0, R1⟩ : _ ∧ _)
  have HBL := hid hBl
  have HIN := hid hin
  have HOK := hid hok
  have HSZ := hid hsz
  have HBEG := hid (begin_any ((w.alloc (.cells #[.int .i64 p.op, .int .u64 p.set.a, .int .u64 p.set.b, .int .u64 p.set.c, .int .u64 p.set.d, .int .i64 p.lo, .int .i64 p.hi, .int .i64 p.gr, .slice ad xs.length cp] 28)).alloc (.cells #[.slice none 0 0] 43)) w s lines budget B (Re.mk p xs).groups 0 hB)
  have q0 := R0.c9
  clear hin hok R0 R1 hBl hsz hB
  go_enter Try.func34, Try.ntmps34
  go_wp2_with fail
  refine HBEG.out.mono ?_
  rintro e w1 ⟨rfl, hm, hmb, hb1⟩
  have hz : (((w.alloc (.cells #[.int .i64 p.op, .int .u64 p.set.a, .int .u64 p.set.b, .int .u64 p.set.c, .int .u64 p.set.d, .int .i64 p.lo, .int .i64 p.hi, .int .i64 p.gr, .slice ad xs.length cp] 28)).alloc (.cells #[.slice none 0 0] 43))).heap.size = w.heap.size + 2 := by simp
  rw [hz] at hm hmb hb1
  have hb2 : Below w.heap.size w w1 := HBL.out.trans (hb1.mono (by omega))
  have hr1 := HRR.out.1.below hb1 (by omega)
  have hr2 := HRR.out.2.below hb1 (by omega)
  have HRS : Hid (Rest (⟨w, w.heap.size + 2, w.heap.size + 3, 0, (Re.mk p xs).groups, B, s, lines⟩ : Ctx) B false w1) := ⟨hb2, by show Row _ _ (Ctx.cells _ ((B - B : Nat) : Int) false) _; rw [Nat.sub_self]; exact hm, hmb, by show w.heap.size ≤ w.heap.size + 2; omega, Nat.le_refl _, hB2, hs, hgr⟩
  have HR1 := hid (⟨hr1, hr2⟩ : _ ∧ _)
  have HB2 := hid hb2
  have q1 := hr1.c9
  clear HBEG q0 hm hmb hb1 hb2 hr1 hr2 hz
  -- REST
  go_wp2_with fail
  refine (Groups_any (.mk p xs) _ _ (HIN.out.below HB2.out) HSZ.out).mono ?_
  rintro e w2 ⟨rfl, hb3⟩
  have HX2 := hid (⟨⟨HR1.out.1.below hb3 HR1.out.1.lt, HR1.out.2.below hb3 HR1.out.2.lt⟩, HB2.out.trans (hb3.mono HB2.out.size), HRS.out.later hb3⟩ : (Row w2 _ _ _ ∧ Row w2 _ _ _) ∧ Below _ _ w2 ∧ Rest _ _ _ w2)
  have hsl : s.data.toList.length = s.size := by rw [Array.length_toList]; rfl
  have HSL := hid hsl
  have hto2 : (to_ : Int) ≤ 1000000 := by omega
  clear hb3 HR1 HB2 HRS q1 hsl
  go_wp2_with fail
  go_loopw [18] (fun v wr => ∃ (i : Nat) (ov : Bool), v = .int .i64 i ∧ from_ ≤ i ∧ i ≤ to_ + 1 ∧ Hid (FindL (⟨w, w.heap.size + 2, w.heap.size + 3, 0, (Re.mk p xs).groups, B, s, lines⟩ : Ctx) w B (.mk p xs) from_ (to_ + 1 - from_) [.int .i64 p.op, .int .u64 p.set.a, .int .u64 p.set.b, .int .u64 p.set.c, .int .u64 p.set.d, .int .i64 p.lo, .int .i64 p.hi, .int .i64 p.gr, .slice ad xs.length cp] i (to_ + 1 - i) ov wr)) (fun v _ => to_ + 1 - (intOf v).toNat)
  case atStart =>
    exact ⟨from_, false, rfl, Nat.le_refl _, by omega, HX2.out.1, HX2.out.2.1, fun _ => ⟨B, Nat.le_refl _, HX2.out.2.2, fun o m he => he⟩, fun e => (by cases e)⟩
  case round =>
    obtain ⟨i, ov, rfl, hfi, hit, HL⟩ := hrel
    cases ov with
    | true =>
      obtain ⟨hr, hbw, -, hov⟩ := HL.out
      obtain ⟨hst, hev⟩ := hov rfl
      have HX := hid (⟨hr, hbw, hst, hev⟩ : _ ∧ _ ∧ _ ∧ _)
      have pc := hst.c
      have p0 := hr.1.c9
      clear hr hbw hov hst hev HL HX2
      by_cases hle : i ≤ to_
      all_goals
        have hleI : (i : Int) ≤ (to_ : Int) ∨ ¬ (i : Int) ≤ (to_ : Int) := by omega
        rcases hleI with hleI | hleI
        all_goals
          first
          | (exfalso; omega)
          | skip
        go_wp2_with fail
        clear pc p0
        generalize hwz : wr = wz at *
        have hc := HX.out.2.2.1.c
        have hx0 := HX.out.1.2.cell 0
        have hx1 := HX.out.1.2.free 0
        go_region
        go_wp2_with fail
        refine bodyPost_ret (results_cell_tmp3 rfl _ _ (w.heap.size + 1) _ _ _ _ rfl (show _ = some (Obj.cells (List.toArray _) _) from (HX.out.1.2.set 0 (.slice none 0 0)).drew) Try.underlying43 rfl (by kernel_rfl)) rfl ?_
        exact ⟨.over, 0, _, HX.out.2.2.2, HX.out.2.2.1.nB, rfl, (HX.out.2.1.setCell (by simp) _).drew, fun l hl => (by cases hl), fun _ => rfl⟩
    | false =>
      obtain ⟨hr, hbw, hpr, -⟩ := HL.out
      obtain ⟨n', hn', hst, hrest⟩ := hpr rfl
      have pc := hst.c
      have p0 := hr.1.c9
      by_cases hle : i ≤ to_
      · have HX := hid (⟨hr, hbw, hst, hrest⟩ : _ ∧ _ ∧ _ ∧ _)
        have hleI : (i : Int) ≤ (to_ : Int) := by omega
        have hwi : IntKind.i64.wrap ((i : Int) + 1) = (i : Int) + 1 := by rw [IntKind.wrap_i64]; omega
        clear hr hbw hpr hst hrest HL HX2
        go_wp2_with fail
        refine (at_any (C := (⟨w, w.heap.size + 2, w.heap.size + 3, 0, (Re.mk p xs).groups, B, s, lines⟩ : Ctx)) wr n' p xs ad cp i HIN.out HOK.out (by show i ≤ s.size; omega) HX.out.2.2.1).mono ?_
        rintro e w' ⟨o', m, v, he, rfl, hst', hbut', hf1, hf2⟩
        have hbw' : Below w.heap.size w w' := HX.out.2.1.trans (hbut'.below HX.out.2.1.size (fun k hk => by rw [List.mem_singleton.1 hk]; show w.heap.size ≤ w.heap.size + 2; omega))
        have hr' : (Row w' w.heap.size [.int .i64 p.op, .int .u64 p.set.a, .int .u64 p.set.b, .int .u64 p.set.c, .int .u64 p.set.d, .int .i64 p.lo, .int .i64 p.hi, .int .i64 p.gr, .slice ad xs.length cp] 28 ∧ Row w' (w.heap.size + 1) [.slice none 0 0] 43) := ⟨HX.out.1.1.but hbut' (by show _ ∉ [w.heap.size + 2]; simp), HX.out.1.2.but hbut' (by show _ ∉ [w.heap.size + 2]; simp)⟩
        have hwr := HX.out.2.1.size
        have hll : (EvAt s.data.toList lines (.mk p xs) (Re.mk p xs).groups i (s.data.toList.length + 1 - i) n' o' m) := by rw [HSL.out]; exact he
        have hdd : to_ + 1 - i = (to_ - i) + 1 := by omega
        have hmn := (EvAt.left _ _ _ _ he).1
        cases o' with
        | found l =>
          have hf := hf1 l rfl
          obtain ⟨va, vc, rfl⟩ := hf.form
          have HXF := hid (⟨hr', hbw', hst', hf.mono (fun b _ hb => Nat.le_trans hwr hb), HX.out.2.2.2 _ _ (by rw [hdd]; exact .hit hll (by intro h; cases h))⟩ : _ ∧ _ ∧ _ ∧ SpB (w.heap.size ≤ ·) _ _ _ ∧ _)
          have q5 := hst'.c
          have hsz := hr'.2.lt
          clear he hst' hbut' hf1 hf2 hbw' hr' hll hf pc p0
          simp only [Out.isFound]
          go_wp2_with fail
          have hal : Below w'.heap.size w' (w'.alloc (.cells #[.slice va l.length vc] 43)) := (Below.refl _ _).alloc (Nat.le_refl _) _
          have HAL := hid hal
          clear q5
          have HZ := hid (⟨(Row.new (w := w') (cs := [.slice va l.length vc]) (T := 43) rfl), HXF.out.1.2.alloc (.cells #[.slice va l.length vc] 43), HXF.out.2.2.1.later hal⟩ : _ ∧ _ ∧ _)
          have HWZ := hid (⟨HXF.out.2.1.trans (hal.mono HXF.out.2.1.size), HXF.out.2.2.2.1.below hal⟩ : _ ∧ SpB (w.heap.size ≤ ·) _ _ _)
          clear hal
          generalize hwz : w'.alloc (.cells #[.slice va l.length vc] 43) = wz at *
          have hc := HZ.out.2.2.c
          have hx0 := HZ.out.2.1.cell 0
          have hx1 := HZ.out.2.1.free 0
          have hx2 := HZ.out.1.cell 0
          clear hwz
          go_region
          go_wp2_with fail
          refine bodyPost_ret (results_cell_tmp3 rfl _ _ (w.heap.size + 1) _ _ _ _ rfl (show _ = some (Obj.cells (List.toArray _) _) from (HZ.out.2.1.set 0 (.slice va l.length vc)).drew) Try.underlying43 rfl (by kernel_rfl)) rfl ?_
          refine ⟨.found l, m, _, HXF.out.2.2.2.2, by omega, rfl, (HWZ.out.1.setCell (by simp) _).drew, fun l' hl' => ?_, fun h => (by cases h)⟩
          injection hl' with hl'
          subst hl'
          rcases HWZ.out.2 with ⟨h0, h1⟩ | ⟨h0, b, c, more, e, hb, hr⟩
          · exact .inl ⟨h0, h1⟩
          · exact .inr ⟨h0, b, c, more, e, hb, (hr.other (fun e2 => by subst e2; exact absurd (hr.typed HZ.out.2.1) (by decide)) _ _).drew⟩
        | fail =>
          obtain rfl := hf2 rfl
          have HXF := hid (⟨hr', hbw', hst', fun o2 m2 (h2 : EvFind s.data.toList lines (.mk p xs) (Re.mk p xs).groups (i + 1) (to_ - i) m o2 m2) => HX.out.2.2.2 o2 m2 (by rw [hdd]; exact .miss hll h2)⟩ : _ ∧ _ ∧ _ ∧ _)
          have hsz := hr'.2.lt
          clear he hst' hbut' hf1 hf2 hbw' hr' hll pc p0
          simp only [Out.isFound]
          go_wp2_with fail
          have hal : Below w'.heap.size w' (w'.alloc (.cells #[.slice none 0 0] 43)) := (Below.refl _ _).alloc (Nat.le_refl _) _
          refine ⟨⟨i + 1, false, by go_num, by omega, by omega, ⟨HXF.out.1.1.alloc _, HXF.out.1.2.alloc _⟩, HXF.out.2.1.trans (hal.mono HXF.out.2.1.size), fun _ => ⟨m, by omega, HXF.out.2.2.1.later hal, fun o2 m2 h2 => HXF.out.2.2.2 o2 m2 (by rw [show to_ + 1 - (i + 1) = to_ - i by omega] at h2; exact h2)⟩, fun e => (by cases e)⟩, ?_⟩
          simp [intOf]; omega
        | over =>
          obtain rfl := hf2 rfl
          have h0 := (EvAt.left _ _ _ _ he).2 rfl
          subst h0
          have HXF := hid (⟨hr', hbw', hst', HX.out.2.2.2 .over 0 (by rw [hdd]; exact .hit hll (by intro h; cases h))⟩ : _ ∧ _ ∧ _ ∧ _)
          have hsz := hr'.2.lt
          clear he hst' hbut' hf1 hf2 hbw' hr' hll pc p0
          simp only [Out.isFound]
          go_wp2_with fail
          have hal : Below w'.heap.size w' (w'.alloc (.cells #[.slice none 0 0] 43)) := (Below.refl _ _).alloc (Nat.le_refl _) _
          refine ⟨⟨i + 1, true, by go_num, by omega, by omega, ⟨HXF.out.1.1.alloc _, HXF.out.1.2.alloc _⟩, HXF.out.2.1.trans (hal.mono HXF.out.2.1.size), fun e => (by cases e), fun _ => ⟨HXF.out.2.2.1.later hal, HXF.out.2.2.2⟩⟩, ?_⟩
          simp [intOf]; omega
      · have HX := hid (⟨hr, hbw, hst, hrest _ _ (by rw [show to_ + 1 - i = 0 by omega]; exact .none)⟩ : _ ∧ _ ∧ _ ∧ _)
        have hleI : ¬ (i : Int) ≤ (to_ : Int) := by omega
        clear hr hbw hpr hst hrest HL HX2
        go_wp2_with fail
        clear pc p0
        generalize hwz : wr = wz at *
        have hc := HX.out.2.2.1.c
        have hx0 := HX.out.1.2.cell 0
        have hx1 := HX.out.1.2.free 0
        go_region
        go_wp2_with fail
        refine bodyPost_ret (results_cell_tmp3 rfl _ _ (w.heap.size + 1) _ _ _ _ rfl (show _ = some (Obj.cells (List.toArray _) _) from (HX.out.1.2.set 0 (.slice none 0 0)).drew) Try.underlying43 rfl (by kernel_rfl)) rfl ?_
        exact ⟨.fail, n', _, HX.out.2.2.2, HX.out.2.2.1.nB, rfl, (HX.out.2.1.setCell (by simp) _).drew, fun l hl => (by cases hl), fun _ => rfl⟩
end Go.Proofs.Ythnpbopnpdlmnaa

/- Reback: check, At and Search. -/
namespace Go.Proofs.Ythnpbopnpdlmnaa
open Go.RowKit
attribute [local go_sem] gives givesUpon


def Api (t : Re) (s : ByteArray) (at_ : Int) (d : Nat → Nat) (lines : Bool) (B : Nat) (o : Out) (k x : Int) : Prop :=
  (chk t s at_ ≠ 0 ∧ o = .fail ∧ k = 0 ∧ x = chk t s at_) ∨ (chk t s at_ = 0 ∧ ∃ m : Nat, m ≤ B ∧ EvFind s.data.toList lines t t.groups at_.toNat (d at_.toNat) B o m ∧ k = ((B - m : Nat) : Int) ∧ x = o.errno)
theorem Api.det {t : Re} {s : ByteArray} {at_ : Int} {d : Nat → Nat} {lines : Bool} {B : Nat} {o o' : Out} {k x k' x' : Int} (h : Api t s at_ d lines B o k x) (h' : Api t s at_ d lines B o' k' x') : o = o' ∧ k = k' ∧ x = x' := by
  rcases h with ⟨h0, rfl, rfl, rfl⟩ | ⟨h0, m, hm, h1, rfl, rfl⟩
  · rcases h' with ⟨_, rfl, rfl, rfl⟩ | ⟨h2, _⟩
    · exact ⟨rfl, rfl, rfl⟩
    · exact absurd h2 h0
  · rcases h' with ⟨h2, _⟩ | ⟨_, m', hm', h2, rfl, rfl⟩
    · exact absurd h0 h2
    · obtain ⟨rfl, rfl⟩ := EvFind.det _ _ _ _ h1 _ _ h2
      exact ⟨rfl, rfl, rfl⟩
def ApiPost (A : Out → Int → Int → Prop) (w : World) (e : Ending) (w' : World) : Prop :=
  ∃ (o : Out) (k x : Int) (v : Value), A o k x ∧ e = .returned (.tuple #[.agg #[v], .bool o.isFound, .int .i64 k, .int .i64 x]) ∧ Below w.heap.size w w' ∧ (∀ l, o = .found l → SpB (w.heap.size ≤ ·) w' v l) ∧ (o.isFound = false → v = .slice none 0 0)

set_option maxRecDepth 100000 in
set_option maxHeartbeats 8000000 in
theorem checkB_any (w : World) (t : Re) (cs : List Value) (s : ByteArray) (at_ : Int) (hin : t.In w cs) (hsz : t.size ≤ 1048576) (_hs : s.size ≤ 1000000) :
    Calls Try.prog 33 #[.agg cs.toArray, .string s, .int .i64 at_] w fun e w' => e = .returned (.int .i64 (chk t s at_)) ∧ Below w.heap.size w w' := by
  obtain ⟨p, ad, n, c, rfl⟩ := Re.cells_shape hin
  have HI := hid hin
  have HSZ := hid hsz
  have HB := hid ((Below.refl w.heap.size w).alloc (Nat.le_refl _) (.cells #[.int .i64 p.op, .int .u64 p.set.a, .int .u64 p.set.b, .int .u64 p.set.c, .int .u64 p.set.d, .int .i64 p.lo, .int .i64 p.hi, .int .i64 p.gr, .slice ad n c] 28))
  have HCH : Hid (chk t s at_ = if t.err ≠ 0 then t.err else if at_ < 0 ∨ (s.size : Int) < at_ then 2 else 0) := rfl
  generalize chk t s at_ = ans at *
  clear hin hsz
  go_enter Try.func33, Try.ntmps33
  go_wp2_with fail
  refine (Check_any t _ _ (HI.out.below HB.out) HSZ.out).mono ?_
  generalize t.err = er at *
  rintro e w1 ⟨rfl, hb⟩
  have HB1 := hid (HB.out.trans (hb.mono (by simp)))
  clear hb
  by_cases he : er = 0
  · subst he
    by_cases h1 : at_ < 0
    · go_wp2_with fail
      go_ret
      exact ⟨ret_int (by rw [HCH.out]; simp [h1]), HB1.out⟩
    · by_cases h2 : (s.size : Int) < at_
      · go_wp2_with fail
        go_ret
        exact ⟨ret_int (by rw [HCH.out]; simp [h2]), HB1.out⟩
      · go_wp2_with fail
        go_ret
        exact ⟨ret_int (by rw [HCH.out]; simp [h1, h2]), HB1.out⟩
  · have d1 : (er != 0) = true := by simp [he]
    go_wp2_with fail
    go_ret
    exact ⟨ret_int (by rw [HCH.out]; simp [he]), HB1.out⟩

set_option maxRecDepth 100000 in
set_option maxHeartbeats 8000000 in
theorem BAt_any (w : World) (t : Re) (cs : List Value) (s : ByteArray) (at_ : Int) (lines : Bool) (budget : Int) (B : Nat) (hin : t.In w cs) (hsz : t.size ≤ 1048576) (hs : s.size ≤ 1000000) (hB : max budget 0 = (B : Int)) (hB2 : B ≤ 20000) :
    Calls Try.prog 14 #[.agg cs.toArray, .string s, .int .i64 at_, .bool lines, .int .i64 budget] w (ApiPost (Api t s at_ (fun _ => 1) lines B) w) := by
  have hin2 := hin
  obtain ⟨p, ad, n, c, rfl⟩ := Re.cells_shape hin
  have R0 : Row ((w.alloc (.cells #[.int .i64 p.op, .int .u64 p.set.a, .int .u64 p.set.b, .int .u64 p.set.c, .int .u64 p.set.d, .int .i64 p.lo, .int .i64 p.hi, .int .i64 p.gr, .slice ad n c] 28)).alloc (.cells #[.slice none 0 0] 43)) w.heap.size [.int .i64 p.op, .int .u64 p.set.a, .int .u64 p.set.b, .int .u64 p.set.c, .int .u64 p.set.d, .int .i64 p.lo, .int .i64 p.hi, .int .i64 p.gr, .slice ad n c] 28 := (Row.new rfl).alloc _
  have R1 : Row ((w.alloc (.cells #[.int .i64 p.op, .int .u64 p.set.a, .int .u64 p.set.b, .int .u64 p.set.c, .int .u64 p.set.d, .int .i64 p.lo, .int .i64 p.hi, .int .i64 p.gr, .slice ad n c] 28)).alloc (.cells #[.slice none 0 0] 43)) (w.heap.size + 1) [.slice none 0 0] 43 := Row.new (by simp)
  have hBl : Below w.heap.size w ((w.alloc (.cells #[.int .i64 p.op, .int .u64 p.set.a, .int .u64 p.set.b, .int .u64 p.set.c, .int .u64 p.set.d, .int .i64 p.lo, .int .i64 p.hi, .int .i64 p.gr, .slice ad n c] 28)).alloc (.cells #[.slice none 0 0] 43)) := ((Below.refl w.heap.size w).alloc (Nat.le_refl _) _).alloc (by simp) _
  have HRR := hid (⟨R0, R1⟩ : _ ∧ _)
  have HBL := hid hBl
  have HI := hid hin
  have HSZ := hid hsz
  have HB0 := hid hB
  have HCK := hid (checkB_any ((w.alloc (.cells #[.int .i64 p.op, .int .u64 p.set.a, .int .u64 p.set.b, .int .u64 p.set.c, .int .u64 p.set.d, .int .i64 p.lo, .int .i64 p.hi, .int .i64 p.gr, .slice ad n c] 28)).alloc (.cells #[.slice none 0 0] 43)) t _ s at_ (hin.below hBl) hsz hs)
  have q0 := R0.c9
  clear hin hin2 hsz hB R0 R1 hBl
  go_enter Try.func14, Try.ntmps14
  go_wp2_with fail
  refine HCK.out.mono ?_
  rintro e w1 ⟨rfl, hb⟩
  have hz : (((w.alloc (.cells #[.int .i64 p.op, .int .u64 p.set.a, .int .u64 p.set.b, .int .u64 p.set.c, .int .u64 p.set.d, .int .i64 p.lo, .int .i64 p.hi, .int .i64 p.gr, .slice ad n c] 28)).alloc (.cells #[.slice none 0 0] 43))).heap.size = w.heap.size + 2 := by simp
  have HX := hid (⟨HRR.out.1.below hb (by rw [hz]; omega), HRR.out.2.below hb (by rw [hz]; omega), HBL.out.trans (hb.mono (by rw [hz]; omega))⟩ : Row w1 _ _ _ ∧ Row w1 _ _ _ ∧ Below _ _ w1)
  have p0 := HX.out.1.c9
  have p1 := HX.out.2.1.cell 0
  have p2 := HX.out.2.1.free 0
  clear hb hz q0 HCK
  by_cases hc : chk t s at_ = 0
  · have hc2 := chk_zero hc
    have HC0 := hid hc
    obtain ⟨f, rfl⟩ : ∃ f : Nat, at_ = f := ⟨at_.toNat, by omega⟩
    have hfs : f ≤ s.size := by omega
    have HE := hid hc2.1
    rw [hc]
    clear hc hc2
    go_wp2_with fail
    obtain ⟨p', xs'⟩ := t
    have hin3 := HI.out
    rw [Re.In] at hin3
    obtain ⟨ad2, cap2, e, -⟩ := hin3
    simp only [Pay.cells, List.cons.injEq, Value.int.injEq, Value.slice.injEq, true_and, and_true] at e
    have hcs := HI.out
    have hpp : ([.int .i64 p.op, .int .u64 p.set.a, .int .u64 p.set.b, .int .u64 p.set.c, .int .u64 p.set.d, .int .i64 p.lo, .int .i64 p.hi, .int .i64 p.gr, .slice ad n c] : List Value) = [.int .i64 p'.op, .int .u64 p'.set.a, .int .u64 p'.set.b, .int .u64 p'.set.c, .int .u64 p'.set.d, .int .i64 p'.lo, .int .i64 p'.hi, .int .i64 p'.gr, .slice ad xs'.length c] := by
      have hi2 := HI.out
      rw [Re.In] at hi2
      obtain ⟨ad2, cap2, e, -⟩ := hi2
      rw [e]
      simp only [Pay.cells, List.cons.injEq, Value.slice.injEq] at e ⊢
      simp only [e.2.2.2.2.2.2.2.2.1]
      simp
    have ok := Re.ok_err HE.out
    have HF := find_any w1 p' xs' ad c f f s lines budget B (by rw [← hpp]; exact HI.out.below HX.out.2.2) ok.1 HSZ.out ok.2.1 (by omega) (by omega) hs HB0.out hB2
    have hpa := congrArg List.toArray hpp
    rw [← hpa, (show f + 1 - f = 1 by omega)] at HF
    refine HF.mono ?_
    rintro e w2 ⟨o, m, v, he, hm, rfl, hb2, hf1, hf2⟩
    have HW := hid (⟨HX.out.2.1.below hb2 HX.out.2.1.lt, HX.out.2.2.trans (hb2.mono HX.out.2.2.size)⟩ : Row w2 _ _ _ ∧ Below _ _ w2)
    have hwz := HX.out.2.2.size
    have p3 := HW.out.1.cell 0
    have p4 := HW.out.1.free 0
    have hv : ∃ va vn vc, v = .slice va vn vc := by
      cases o with
      | found l => obtain ⟨va, vc, e⟩ := (hf1 l rfl).form; exact ⟨_, _, _, e⟩
      | fail => exact ⟨_, _, _, hf2 rfl⟩
      | over => exact ⟨_, _, _, hf2 rfl⟩
    obtain ⟨va, vn, vc, rfl⟩ := hv
    have HO := hid (⟨he, hm, hf1, hf2⟩ : _ ∧ _ ∧ _ ∧ _)
    clear he hm hf1 hf2 hb2 p0 p1 p2 e ok HF hpa hpp hcs
    generalize hoi : o.isFound = oi at *
    generalize hoe : o.errno = oe at *
    have HOI := hid hoi
    have HOE := hid hoe
    clear hoi hoe
    go_wp2_with fail
    refine bodyPost_ret (results_cell_tmp3 rfl _ _ (w.heap.size + 1) _ _ _ _ rfl (show _ = some (Obj.cells (List.toArray _) _) from HW.out.1.set 0 (.slice va vn vc)) Try.underlying43 rfl (by kernel_rfl)) rfl ?_
    have h1 := HOI.out
    have h2 := HOE.out
    subst h1; subst h2
    refine ⟨o, _, _, _, .inr ⟨HC0.out, m, HO.out.2.1, HO.out.1, rfl, rfl⟩, rfl, HW.out.2.setCell (by simp) _, fun l hl => ?_, HO.out.2.2.2⟩
    rcases HO.out.2.2.1 l hl with ⟨h0, h1⟩ | ⟨h0, b, c', more, e, hb, hr⟩
    · exact .inl ⟨h0, h1⟩
    · exact .inr ⟨h0, b, c', more, e, Nat.le_trans hwz hb, hr.other (fun e2 => by subst e2; exact absurd (hr.typed HW.out.1) (by decide)) _ _⟩
  · have HC0 := hid hc
    generalize hce : chk t s at_ = er at *
    have HCE := hid hce
    clear hce
    have d1 : (er != 0) = true := by simp [hc]
    go_wp2_with fail
    refine bodyPost_ret (results_cell_tmp3 rfl _ _ (w.heap.size + 1) _ _ _ _ rfl (show _ = some (Obj.cells (List.toArray _) _) from HX.out.2.1.set 0 (.slice none 0 0)) Try.underlying43 rfl (by kernel_rfl)) rfl ?_
    exact ⟨.fail, 0, er, _, .inl ⟨by rw [HCE.out]; exact HC0.out, rfl, rfl, HCE.out.symm⟩, rfl, HX.out.2.2.setCell (by simp) _, fun l hl => (by cases hl), fun _ => rfl⟩
end Go.Proofs.Ythnpbopnpdlmnaa

/- Reback's laws: few, and whether two matches are the same. -/
namespace Go.Proofs.Ythnpbopnpdlmnaa
open Go.RowKit
attribute [local go_sem] gives givesUpon

end Go.Proofs.Ythnpbopnpdlmnaa

/- Reback's laws: whether two matches are the same; what a search comes to, reckoned. -/
namespace Go.Proofs.Ythnpbopnpdlmnaa
open Go.RowKit
attribute [local go_sem] gives givesUpon

def runJ (s : List UInt8) (lines : Bool) : Nat → Job → Spans → Kont → Nat → Option (Out × Nat)
  | 0, _, _, _, _ => none
  | f + 1, .try e i k, sp, K, n => match n with
    | 0 => some (.over, 0)
    | n + 1 => match e with
      | .mk p xs =>
        if p.op = 3 then runJ s lines f (.cat xs i k) sp K n
        else if p.op = 4 then runJ s lines f (.alt xs i k) sp K n
        else if p.op = 5 then (match xs with | [x] => runJ s lines f (.rep p x 0 i k) sp K n | _ => none)
        else if p.op = 6 then (match xs with | [x] => runJ s lines f (.try x i k) sp (.mark p.gr.toNat i k K) n | _ => none)
        else if plainOf s lines p i k sp then runJ s lines f .next sp K n else some (.fail, n)
  | f + 1, .cat xs i k, sp, K, n => match xs with
    | [x] => runJ s lines f (.try x i k) sp K n
    | x :: y :: ys => runJ s lines f (.catj x (y :: ys) i k (k + 1 - i)) sp K n
    | [] => none
  | f + 1, .catj x xs i k c, sp, K, n => match c with
    | 0 => some (.fail, n)
    | c + 1 => match runJ s lines f (.try x i (i + c)) sp (.cat xs (i + c) k K) n with
      | some (.fail, m) => runJ s lines f (.catj x xs i k c) sp K m
      | r => r
  | f + 1, .alt xs i k, sp, K, n => match xs with
    | [] => some (.fail, n)
    | x :: xs => match runJ s lines f (.try x i k) sp K n with
      | some (.fail, m) => runJ s lines f (.alt xs i k) sp K m
      | r => r
  | f + 1, .rep p x c i k, sp, K, n => if p.hi = -1 ∨ (c : Int) < p.hi then runJ s lines f (.repj p x c i k (repLow p c i) (k + 1 - repLow p c i)) sp K n else runJ s lines f (.repj p x c i k (repLow p c i) 0) sp K n
  | f + 1, .repj p x c i k lo q, sp, K, n => match q with
    | 0 => if i = k ∧ p.lo ≤ (c : Int) then runJ s lines f .next sp K n else some (.fail, n)
    | q + 1 => match runJ s lines f (.try x i (lo + q)) (unset sp (withinOf x)) (.rep p x (c + 1) (lo + q) k K) n with
      | some (.fail, m) => runJ s lines f (.repj p x c i k lo q) sp K m
      | r => r
  | f + 1, .next, sp, K, n => match K with
    | .done => some (.found sp, n)
    | .mark g i k K => runJ s lines f .next (sp.set (g - 1) ((i : Int), (k : Int))) K n
    | .cat xs j k K => runJ s lines f (.cat xs j k) sp K n
    | .rep p x c j k K => runJ s lines f (.rep p x c j k) sp K n
theorem runJ_sound (s : List UInt8) (lines : Bool) : ∀ (f : Nat) (J : Job) (sp : Spans) (K : Kont) (n : Nat) (o : Out) (m : Nat), runJ s lines f J sp K n = some (o, m) → Ev s lines J sp K n o m := by
  intro f
  induction f with
  | zero => intro J sp K n o m h; simp [runJ] at h
  | succ f ih =>
    intro J sp K n o m h
    cases J with
    | «try» e i k =>
      cases n with
      | zero => simp only [runJ, Option.some.injEq, Prod.mk.injEq] at h; obtain ⟨rfl, rfl⟩ := h; exact .tryOver
      | succ n =>
        obtain ⟨p, xs⟩ := e
        simp only [runJ] at h
        split at h
        · rename_i h3; exact .tryCat h3 (ih _ _ _ _ _ _ h)
        split at h
        · rename_i h4; exact .tryAlt h4 (ih _ _ _ _ _ _ h)
        split at h
        · rename_i h5
          split at h
          · exact .tryRep h5 (ih _ _ _ _ _ _ h)
          · cases h
        split at h
        · rename_i h6
          split at h
          · exact .tryGroup h6 (ih _ _ _ _ _ _ h)
          · cases h
        rename_i h3 h4 h5 h6
        have hnp : ¬ partOp p := by unfold partOp; omega
        split at h
        · rename_i hp; exact .leaf hnp hp (ih _ _ _ _ _ _ h)
        · rename_i hp
          simp only [Option.some.injEq, Prod.mk.injEq] at h
          obtain ⟨rfl, rfl⟩ := h
          exact .leafFail hnp (by simpa using hp)
    | cat xs i k =>
      match xs, h with
      | [x], h => exact .catOne (ih _ _ _ _ _ _ (by simpa only [runJ] using h))
      | x :: y :: ys, h => exact .catMore (ih _ _ _ _ _ _ (by simpa only [runJ] using h))
      | [], h => simp [runJ] at h
    | catj x xs i k c =>
      cases c with
      | zero => simp only [runJ, Option.some.injEq, Prod.mk.injEq] at h; obtain ⟨rfl, rfl⟩ := h; exact .catjNone
      | succ c =>
        simp only [runJ] at h
        split at h
        · rename_i m' hx; exact .catjMiss (ih _ _ _ _ _ _ hx) (ih _ _ _ _ _ _ h)
        · rename_i hy hx; exact .catjHit (ih _ _ _ _ _ _ h) (fun e => hx m (by rw [h, e]))
    | alt xs i k =>
      cases xs with
      | nil => simp only [runJ, Option.some.injEq, Prod.mk.injEq] at h; obtain ⟨rfl, rfl⟩ := h; exact .altNone
      | cons x xs =>
        simp only [runJ] at h
        split at h
        · rename_i m' hx; exact .altMiss (ih _ _ _ _ _ _ hx) (ih _ _ _ _ _ _ h)
        · rename_i hy hx; exact .altHit (ih _ _ _ _ _ _ h) (fun e => hx m (by rw [h, e]))
    | rep p x c i k =>
      simp only [runJ] at h
      split at h
      · rename_i hm; exact .repMay hm (ih _ _ _ _ _ _ h)
      · rename_i hm; exact .repNot hm (ih _ _ _ _ _ _ h)
    | repj p x c i k lo q =>
      cases q with
      | zero =>
        simp only [runJ] at h
        split at h
        · rename_i hm; exact .repjEnd hm (ih _ _ _ _ _ _ h)
        · rename_i hm
          simp only [Option.some.injEq, Prod.mk.injEq] at h
          obtain ⟨rfl, rfl⟩ := h
          exact .repjFail hm
      | succ q =>
        simp only [runJ] at h
        split at h
        · rename_i m' hx; exact .repjMiss (ih _ _ _ _ _ _ hx) (ih _ _ _ _ _ _ h)
        · rename_i hy hx; exact .repjHit (ih _ _ _ _ _ _ h) (fun e => hx m (by rw [h, e]))
    | next =>
      cases K with
      | done => simp only [runJ, Option.some.injEq, Prod.mk.injEq] at h; obtain ⟨rfl, rfl⟩ := h; exact .nextDone
      | mark g i k K => exact .nextMark (ih _ _ _ _ _ _ (by simpa only [runJ] using h))
      | cat xs j k K => exact .nextCat (ih _ _ _ _ _ _ (by simpa only [runJ] using h))
      | rep p x c j k K => exact .nextRep (ih _ _ _ _ _ _ (by simpa only [runJ] using h))
end Go.Proofs.Ythnpbopnpdlmnaa
