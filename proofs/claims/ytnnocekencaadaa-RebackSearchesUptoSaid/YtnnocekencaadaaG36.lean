/- Reback's reference: find, At and Search. -/
import Derived.Test.YtnnocekencaadaaG30
import Derived.Test.YtnnocekencaadaaG35
namespace Go.Proofs.Ytnnocekencaadaa
open Go.RowKit
attribute [local go_sem] gives givesUpon

-- def BX := [.int .i64 p.op, .int .u64 p.set.a, .int .u64 p.set.b, .int .u64 p.set.c, .int .u64 p.set.d, .int .i64 p.lo, .int .i64 p.hi, .int .i64 p.gr, .slice ad xs.length cp]
-- def W2 := ((w.alloc (.cells #[.int .i64 p.op, .int .u64 p.set.a, .int .u64 p.set.b, .int .u64 p.set.c, .int .u64 p.set.d, .int .i64 p.lo, .int .i64 p.hi, .int .i64 p.gr, .slice ad xs.length cp] 28)).alloc (.cells #[.slice none 0 0] 35))
-- def CC := (⟨w, z.heap.size, (Re.mk p xs).groups, B, s, lines⟩ : RCtx)
-- def WX := (z.alloc (.cells #[.string s, .bool lines, .int .i64 0, .int .i64 B, .bool false] 64))
/-- What the loop over offsets keeps: the context's search lies behind w. -/
def RFindL (C : RCtx) (w : World) (n : Nat) (e : Re) (from_ d0 : Nat) (BXL : List Value) (i d : Nat) (wr : World) : Prop :=
  (Row wr w.heap.size BXL 28 ∧ Row wr (w.heap.size + 1) [.slice none 0 0] 35) ∧ Below w.heap.size w wr ∧
  ∃ n', n' ≤ n ∧ C.St n' false wr ∧ ∀ o m, EvFind C.str C.lines e C.N i d n' o m → EvFind C.str C.lines e C.N from_ d0 n o m

set_option maxRecDepth 100000 in
set_option maxHeartbeats 16000000 in
theorem rfind_any (w : World) (p : Pay) (xs : List Re) (ad : Option Addr) (cp : Nat) (at_ to_ : Int) (s : ByteArray) (lines : Bool) (budget : Int) (B : Nat) (hin : (Re.mk p xs).In w [.int .i64 p.op, .int .u64 p.set.a, .int .u64 p.set.b, .int .u64 p.set.c, .int .u64 p.set.d, .int .i64 p.lo, .int .i64 p.hi, .int .i64 p.gr, .slice ad xs.length cp]) (hsz : (Re.mk p xs).size ≤ 1048576) (hto : chk (.mk p xs) s at_ = 0 → at_ ≤ to_ ∧ to_ ≤ s.size) (hs : s.size ≤ 1000000) (hB : max 0 budget = (B : Int)) (hB2 : B ≤ 20000) :
    Calls Try.prog 19 #[.agg #[.int .i64 p.op, .int .u64 p.set.a, .int .u64 p.set.b, .int .u64 p.set.c, .int .u64 p.set.d, .int .i64 p.lo, .int .i64 p.hi, .int .i64 p.gr, .slice ad xs.length cp], .string s, .int .i64 at_, .int .i64 to_, .bool lines, .int .i64 budget] w (ApiPost (Api (.mk p xs) s at_ (fun f => to_.toNat + 1 - f) lines B) w) := by
  have R0 : Row ((w.alloc (.cells #[.int .i64 p.op, .int .u64 p.set.a, .int .u64 p.set.b, .int .u64 p.set.c, .int .u64 p.set.d, .int .i64 p.lo, .int .i64 p.hi, .int .i64 p.gr, .slice ad xs.length cp] 28)).alloc (.cells #[.slice none 0 0] 35)) w.heap.size [.int .i64 p.op, .int .u64 p.set.a, .int .u64 p.set.b, .int .u64 p.set.c, .int .u64 p.set.d, .int .i64 p.lo, .int .i64 p.hi, .int .i64 p.gr, .slice ad xs.length cp] 28 := (Row.new rfl).alloc _
  have R1 : Row ((w.alloc (.cells #[.int .i64 p.op, .int .u64 p.set.a, .int .u64 p.set.b, .int .u64 p.set.c, .int .u64 p.set.d, .int .i64 p.lo, .int .i64 p.hi, .int .i64 p.gr, .slice ad xs.length cp] 28)).alloc (.cells #[.slice none 0 0] 35)) (w.heap.size + 1) [.slice none 0 0] 35 := Row.new (by simp)
  have hBl : Below w.heap.size w ((w.alloc (.cells #[.int .i64 p.op, .int .u64 p.set.a, .int .u64 p.set.b, .int .u64 p.set.c, .int .u64 p.set.d, .int .i64 p.lo, .int .i64 p.hi, .int .i64 p.gr, .slice ad xs.length cp] 28)).alloc (.cells #[.slice none 0 0] 35)) := ((Below.refl w.heap.size w).alloc (Nat.le_refl _) _).alloc (by simp) _
  have HRR := hid (⟨R0, R1⟩ : _ ∧ _)
  have HBL := hid hBl
  have HIN := hid hin
  have HSZ := hid hsz
  have HB0 := hid hB
  have HTO := hid hto
  have hsl : s.data.toList.length = s.size := by rw [Array.length_toList]; rfl
  have HSL := hid hsl
  have q0 := R0.c9
  clear hin hsz R0 R1 hBl hB hto hsl
  go_enter Try.func19, Try.ntmps19
  go_wp2_with fail
  refine (CheckRef_any (.mk p xs) _ _ (HIN.out.below HBL.out) HSZ.out).mono ?_
  rintro e z ⟨rfl, hb⟩
  have hz : (((w.alloc (.cells #[.int .i64 p.op, .int .u64 p.set.a, .int .u64 p.set.b, .int .u64 p.set.c, .int .u64 p.set.d, .int .i64 p.lo, .int .i64 p.hi, .int .i64 p.gr, .slice ad xs.length cp] 28)).alloc (.cells #[.slice none 0 0] 35))).heap.size = w.heap.size + 2 := by simp
  have HX := hid (⟨⟨HRR.out.1.below hb (by rw [hz]; omega), HRR.out.2.below hb (by rw [hz]; omega)⟩, HBL.out.trans (hb.mono (by rw [hz]; omega))⟩ : (Row z _ _ _ ∧ Row z _ _ _) ∧ Below _ _ z)
  have p0 := HX.out.1.1.c9
  have p1 := HX.out.1.2.cell 0
  have p2 := HX.out.1.2.free 0
  clear hb hz q0
  by_cases he : (Re.mk p xs).err = 0
  · by_cases hr : at_ < 0 ∨ (s.size : Int) < at_
    · have HC0 : Hid (chk (.mk p xs) s at_ = 2) := by unfold chk; show (if _ then _ else _) = _; rw [if_neg (by simp [he]), if_pos hr]
      rw [he]
      have hres : ApiPost (Api (.mk p xs) s at_ (fun f => to_.toNat + 1 - f) lines B) w (.returned (.tuple #[.agg #[.slice none 0 0], .bool false, .int .i64 0, .int .i64 2])) (z.setCell ⟨w.heap.size + 1, 0, none⟩ (.slice none 0 0)) :=
        ⟨.fail, 0, 2, _, .inl ⟨by rw [HC0.out]; decide, rfl, rfl, HC0.out.symm⟩, rfl, HX.out.2.setCell (by simp) _, fun l hl => (by cases hl), fun _ => rfl⟩
      have HRES := hid hres
      clear hres HC0 he
      have hr2 : at_ < 0 ∨ (¬ at_ < 0 ∧ (s.size : Int) < at_) := by omega
      clear hr
      rcases hr2 with hr | ⟨hr1, hr⟩
      all_goals
        go_wp2_with fail
        refine bodyPost_ret (results_cell_tmp3 rfl _ _ (w.heap.size + 1) _ _ _ _ rfl (show _ = some (Obj.cells (List.toArray _) _) from HX.out.1.2.set 0 (.slice none 0 0)) Try.underlying35 rfl (by kernel_rfl)) rfl ?_
        exact HRES.out
    · have hc : chk (.mk p xs) s at_ = 0 := by unfold chk; rw [if_neg (by simp [he]), if_neg hr]
      have HC0 := hid hc
      have HE := hid he
      obtain ⟨f, rfl⟩ : ∃ f : Nat, at_ = f := ⟨at_.toNat, by omega⟩
      obtain ⟨ht1, ht2⟩ := HTO.out hc
      obtain ⟨t, rfl⟩ : ∃ t : Nat, to_ = t := ⟨to_.toNat, by omega⟩
      have hfs : ¬ (s.size : Int) < (f : Int) := by omega
      have hf0 : ¬ (f : Int) < 0 := by omega
      have ok := Re.ok_err he
      have HOK := hid ok.1
      have hgr9 := ok.2.1
      rw [he]
      clear hc hr he ok
      have hsplit : (0 < budget ∧ budget = (B : Int)) ∨ (¬ 0 < budget ∧ B = 0) := by have := HB0.out; omega
      clear HB0
      rcases hsplit with ⟨hb, hbe⟩ | ⟨hb, hbe⟩
      · subst hbe
        go_wp2_with fail
        have hbX : Below z.heap.size z (z.alloc (.cells #[.string s, .bool lines, .int .i64 0, .int .i64 B, .bool false] 64)) := (Below.refl _ _).alloc (Nat.le_refl _) _
        have hS0 : RCtx.St (⟨w, z.heap.size, (Re.mk p xs).groups, B, s, lines⟩ : RCtx) B false (z.alloc (.cells #[.string s, .bool lines, .int .i64 0, .int .i64 B, .bool false] 64)) := ⟨HX.out.2.trans (hbX.mono HX.out.2.size), by show Row _ _ (RCtx.cells _ ((B - B : Nat) : Int) false) _; rw [Nat.sub_self]; exact Row.new rfl, HX.out.2.size, Nat.le_refl _, hB2, hs, hgr9⟩
        have HS0 := hid (⟨⟨HX.out.1.1.alloc (.cells #[.string s, .bool lines, .int .i64 0, .int .i64 B, .bool false] 64), HX.out.1.2.alloc (.cells #[.string s, .bool lines, .int .i64 0, .int .i64 B, .bool false] 64)⟩, HX.out.2.trans (hbX.mono HX.out.2.size), hS0⟩ : (_ ∧ _) ∧ _ ∧ _)
        have HT := hid (⟨ht1, ht2⟩ : _ ∧ _)
        clear hbX hS0 p0 p1 p2 hfs hf0 ht1 ht2 HTO
        try clear hb
        generalize decide ((f : Int) < 0) = dy
        generalize decide (s.size < f) = dz
        go_loopw [18] (fun v wr => ∃ i : Nat, v = .int .i64 i ∧ f ≤ i ∧ i ≤ t + 1 ∧ Hid (RFindL (⟨w, z.heap.size, (Re.mk p xs).groups, B, s, lines⟩ : RCtx) w B (.mk p xs) f (t + 1 - f) [.int .i64 p.op, .int .u64 p.set.a, .int .u64 p.set.b, .int .u64 p.set.c, .int .u64 p.set.d, .int .i64 p.lo, .int .i64 p.hi, .int .i64 p.gr, .slice ad xs.length cp] i (t + 1 - i) wr)) (fun v _ => t + 1 - (intOf v).toNat)
        case atStart =>
          exact ⟨f, rfl, Nat.le_refl _, by have := HT.out.1; omega, HS0.out.1, HS0.out.2.1, B, Nat.le_refl _, HS0.out.2.2, fun o m he => he⟩
        case round =>
          obtain ⟨i, rfl, hfi, hit, HL⟩ := hrel
          clear HS0
          obtain ⟨hr, hbw, n', hn', hst, hrest⟩ := HL.out
          have pc := hst.c
          have p0 := hr.1.c9
          by_cases hle : i ≤ t
          · have HX2 := hid (⟨hr, hbw, hst, hrest⟩ : _ ∧ _ ∧ _ ∧ _)
            have hleI : (i : Int) ≤ (t : Int) := by omega
            have hwi : IntKind.i64.wrap ((i : Int) + 1) = (i : Int) + 1 := by rw [IntKind.wrap_i64]; have := HT.out.2; omega
            clear hr hbw hst hrest HL
            go_wp2_with fail
            refine (rat_any (C := (⟨w, z.heap.size, (Re.mk p xs).groups, B, s, lines⟩ : RCtx)) wr n' p xs ad cp i HIN.out HOK.out rfl HSZ.out (by show i ≤ s.size; have := HT.out.2; omega) HX2.out.2.2.1).mono ?_
            rintro e w' ⟨o', m, v, he, rfl, hst', hbut', hf1, hf2⟩
            have hbw' : Below w.heap.size w w' := HX2.out.2.1.trans (hbut'.below HX2.out.2.1.size (fun k hk => by rw [List.mem_singleton.1 hk]; exact HX.out.2.size))
            have hr' : (Row w' w.heap.size [.int .i64 p.op, .int .u64 p.set.a, .int .u64 p.set.b, .int .u64 p.set.c, .int .u64 p.set.d, .int .i64 p.lo, .int .i64 p.hi, .int .i64 p.gr, .slice ad xs.length cp] 28 ∧ Row w' (w.heap.size + 1) [.slice none 0 0] 35) := ⟨HX2.out.1.1.but hbut' (HX2.out.2.2.1.nX HX2.out.1.1 (by decide)), HX2.out.1.2.but hbut' (HX2.out.2.2.1.nX HX2.out.1.2 (by decide))⟩
            have hwr := HX2.out.2.1.size
            have hll : (EvAt s.data.toList lines (.mk p xs) (Re.mk p xs).groups i (s.data.toList.length + 1 - i) n' o' m) := by rw [HSL.out]; exact he
            have hdd : t + 1 - i = (t - i) + 1 := by omega
            have hmn := (EvAt.left _ _ _ _ he).1
            cases o' with
            | found l =>
              have hf := hf1 l rfl
              obtain ⟨va, vc, rfl⟩ := hf.form
              have HXF := hid (⟨hr', hbw', hst', hf.mono (fun b _ hb => Nat.le_trans hwr hb), HX2.out.2.2.2 _ _ (by rw [hdd]; exact .hit hll (by intro h; cases h))⟩ : _ ∧ _ ∧ _ ∧ SpB (w.heap.size ≤ ·) _ _ _ ∧ _)
              have q5 := hst'.c
              simp only [Out.isOver] at q5
              have hxl : z.heap.size < w'.heap.size := hst'.x.lt
              have hsz := hr'.2.lt
              clear he hst' hbut' hf1 hf2 hbw' hr' hll hf pc p0
              simp only [Out.isFound]
              go_wp2_with fail
              have hal : Below w'.heap.size w' (w'.alloc (.cells #[.slice va l.length vc] 35)) := (Below.refl _ _).alloc (Nat.le_refl _) _
              clear q5
              have HZ := hid (⟨(Row.new (w := w') (cs := [.slice va l.length vc]) (T := 35) rfl), HXF.out.1.2.alloc (.cells #[.slice va l.length vc] 35), HXF.out.2.2.1.later hal⟩ : _ ∧ _ ∧ _)
              have HWZ := hid (⟨HXF.out.2.1.trans (hal.mono HXF.out.2.1.size), HXF.out.2.2.2.1.below hal⟩ : _ ∧ SpB (w.heap.size ≤ ·) _ _ _)
              clear hal
              generalize hwz : w'.alloc (.cells #[.slice va l.length vc] 35) = wz at *
              have hc := HZ.out.2.2.c
              simp only [Out.isOver] at hc
              have hx0 := HZ.out.2.1.cell 0
              have hx1 := HZ.out.2.1.free 0
              have hx2 := HZ.out.1.cell 0
              clear hwz
              go_region
              go_wp2_with fail
              refine bodyPost_ret (results_cell_tmp3 rfl _ _ (w.heap.size + 1) _ _ _ _ rfl (show _ = some (Obj.cells (List.toArray _) _) from (HZ.out.2.1.set 0 (.slice va l.length vc)).drew) Try.underlying35 rfl (by kernel_rfl)) rfl ?_
              refine ⟨.found l, _, _, _, .inr ⟨HC0.out, m, by omega, (by rw [Int.toNat_natCast]; exact HXF.out.2.2.2.2), ?hk, rfl⟩, rfl, (HWZ.out.1.setCell (by simp) _).drew, fun l' hl' => ?_, fun h => (by cases h)⟩
              case hk => first | rfl | (simp; done)
              injection hl' with hl'
              subst hl'
              rcases HWZ.out.2 with ⟨h0, h1⟩ | ⟨h0, b, c, more, e, hb, hr⟩
              · exact .inl ⟨h0, h1⟩
              · exact .inr ⟨h0, b, c, more, e, hb, (hr.other (fun e2 => by subst e2; exact absurd (hr.typed HZ.out.2.1) (by decide)) _ _).drew⟩
            | fail =>
              obtain rfl := hf2 rfl
              have HXF := hid (⟨hr', hbw', hst', fun o2 m2 (h2 : EvFind s.data.toList lines (.mk p xs) (Re.mk p xs).groups (i + 1) (t - i) m o2 m2) => HX2.out.2.2.2 o2 m2 (by rw [hdd]; exact .miss hll h2)⟩ : _ ∧ _ ∧ _ ∧ _)
              have hsz := hr'.2.lt
              have q5 := hst'.c
              simp only [Out.isOver] at q5
              have hxl : z.heap.size < w'.heap.size := hst'.x.lt
              clear he hst' hbut' hf1 hf2 hbw' hr' hll pc p0
              simp only [Out.isFound]
              go_wp2_with fail
              have hal : Below w'.heap.size w' (w'.alloc (.cells #[.slice none 0 0] 35)) := (Below.refl _ _).alloc (Nat.le_refl _) _
              have hrel2 : f ≤ i + 1 ∧ i + 1 ≤ t + 1 ∧ Hid (RFindL (⟨w, z.heap.size, (Re.mk p xs).groups, B, s, lines⟩ : RCtx) w B (.mk p xs) f (t + 1 - f) [.int .i64 p.op, .int .u64 p.set.a, .int .u64 p.set.b, .int .u64 p.set.c, .int .u64 p.set.d, .int .i64 p.lo, .int .i64 p.hi, .int .i64 p.gr, .slice ad xs.length cp] (i + 1) (t + 1 - (i + 1)) (w'.alloc (.cells #[.slice none 0 0] 35))) := ⟨by omega, by omega, ⟨HXF.out.1.1.alloc _, HXF.out.1.2.alloc _⟩, HXF.out.2.1.trans (hal.mono HXF.out.2.1.size), m, by omega, HXF.out.2.2.1.later hal, fun o2 m2 h2 => HXF.out.2.2.2 o2 m2 (by rw [show t + 1 - (i + 1) = t - i by omega] at h2; exact h2)⟩
              refine ⟨?_, ?_⟩
              · exact ⟨i + 1, by go_num, hrel2⟩
              · simp [intOf]; omega
            | over =>
              obtain rfl := hf2 rfl
              have h0 := (EvAt.left _ _ _ _ he).2 rfl
              subst h0
              have HXF := hid (⟨hr', hbw', hst', HX2.out.2.2.2 .over 0 (by rw [hdd]; exact .hit hll (by intro h; cases h))⟩ : _ ∧ _ ∧ _ ∧ _)
              have hsz := hr'.2.lt
              have q5 := hst'.c
              simp only [Out.isOver] at q5
              have hxl : z.heap.size < w'.heap.size := hst'.x.lt
              clear he hst' hbut' hf1 hf2 hbw' hr' hll pc p0
              simp only [Out.isFound]
              go_wp2_with fail
              have hal : Below w'.heap.size w' (w'.alloc (.cells #[.slice none 0 0] 35)) := (Below.refl _ _).alloc (Nat.le_refl _) _
              clear q5
              have HZ := hid (⟨HXF.out.1.2.alloc (.cells #[.slice none 0 0] 35), HXF.out.2.2.1.later hal, HXF.out.2.1.trans (hal.mono HXF.out.2.1.size)⟩ : _ ∧ _ ∧ _)
              clear hal
              generalize hwz : w'.alloc (.cells #[.slice none 0 0] 35) = wz at *
              have hc := HZ.out.2.1.c
              simp only [Out.isOver] at hc
              have hx0 := HZ.out.1.cell 0
              have hx1 := HZ.out.1.free 0
              clear hwz
              go_region
              go_wp2_with fail
              refine bodyPost_ret (results_cell_tmp3 rfl _ _ (w.heap.size + 1) _ _ _ _ rfl (show _ = some (Obj.cells (List.toArray _) _) from (HZ.out.1.set 0 (.slice none 0 0)).drew) Try.underlying35 rfl (by kernel_rfl)) rfl ?_
              exact ⟨.over, _, _, _, .inr ⟨HC0.out, 0, Nat.zero_le _, (by rw [Int.toNat_natCast]; exact HXF.out.2.2.2), by simp, rfl⟩, rfl, (HZ.out.2.2.setCell (by simp) _).drew, fun l hl => (by cases hl), fun _ => rfl⟩
          · have HX2 := hid (⟨hr, hbw, hst, hrest _ _ (by rw [show t + 1 - i = 0 by omega]; exact .none)⟩ : _ ∧ _ ∧ _ ∧ _)
            have hleI : ¬ (i : Int) ≤ (t : Int) := by omega
            clear hr hbw hst hrest HL
            go_wp2_with fail
            clear pc p0
            generalize hwz : wr = wz at *
            have hc := HX2.out.2.2.1.c
            have hx0 := HX2.out.1.2.cell 0
            have hx1 := HX2.out.1.2.free 0
            go_region
            go_wp2_with fail
            refine bodyPost_ret (results_cell_tmp3 rfl _ _ (w.heap.size + 1) _ _ _ _ rfl (show _ = some (Obj.cells (List.toArray _) _) from (HX2.out.1.2.set 0 (.slice none 0 0)).drew) Try.underlying35 rfl (by kernel_rfl)) rfl ?_
            refine ⟨.fail, _, _, _, .inr ⟨HC0.out, n', hn', (by rw [Int.toNat_natCast]; exact HX2.out.2.2.2), ?_, rfl⟩, rfl, (HX2.out.2.1.setCell (by simp) _).drew, fun l hl => (by cases hl), fun _ => rfl⟩
            first | rfl | (simp; done)
      · subst hbe
        go_wp2_with fail
        have hbX : Below z.heap.size z (z.alloc (.cells #[.string s, .bool lines, .int .i64 0, .int .i64 0, .bool false] 64)) := (Below.refl _ _).alloc (Nat.le_refl _) _
        have hS0 : RCtx.St (⟨w, z.heap.size, (Re.mk p xs).groups, 0, s, lines⟩ : RCtx) 0 false (z.alloc (.cells #[.string s, .bool lines, .int .i64 0, .int .i64 0, .bool false] 64)) := ⟨HX.out.2.trans (hbX.mono HX.out.2.size), by show Row _ _ (RCtx.cells _ ((0 - 0 : Nat) : Int) false) _; rw [Nat.sub_self]; exact Row.new rfl, HX.out.2.size, Nat.le_refl _, hB2, hs, hgr9⟩
        have HS0 := hid (⟨⟨HX.out.1.1.alloc (.cells #[.string s, .bool lines, .int .i64 0, .int .i64 0, .bool false] 64), HX.out.1.2.alloc (.cells #[.string s, .bool lines, .int .i64 0, .int .i64 0, .bool false] 64)⟩, HX.out.2.trans (hbX.mono HX.out.2.size), hS0⟩ : (_ ∧ _) ∧ _ ∧ _)
        have HT := hid (⟨ht1, ht2⟩ : _ ∧ _)
        clear hbX hS0 p0 p1 p2 hfs hf0 ht1 ht2 HTO
        try clear hb
        generalize decide ((f : Int) < 0) = dy
        generalize decide (s.size < f) = dz
        go_loopw [18] (fun v wr => ∃ i : Nat, v = .int .i64 i ∧ f ≤ i ∧ i ≤ t + 1 ∧ Hid (RFindL (⟨w, z.heap.size, (Re.mk p xs).groups, 0, s, lines⟩ : RCtx) w 0 (.mk p xs) f (t + 1 - f) [.int .i64 p.op, .int .u64 p.set.a, .int .u64 p.set.b, .int .u64 p.set.c, .int .u64 p.set.d, .int .i64 p.lo, .int .i64 p.hi, .int .i64 p.gr, .slice ad xs.length cp] i (t + 1 - i) wr)) (fun v _ => t + 1 - (intOf v).toNat)
        case atStart =>
          exact ⟨f, rfl, Nat.le_refl _, by have := HT.out.1; omega, HS0.out.1, HS0.out.2.1, 0, Nat.le_refl _, HS0.out.2.2, fun o m he => he⟩
        case round =>
          obtain ⟨i, rfl, hfi, hit, HL⟩ := hrel
          clear HS0
          obtain ⟨hr, hbw, n', hn', hst, hrest⟩ := HL.out
          have pc := hst.c
          have p0 := hr.1.c9
          by_cases hle : i ≤ t
          · have HX2 := hid (⟨hr, hbw, hst, hrest⟩ : _ ∧ _ ∧ _ ∧ _)
            have hleI : (i : Int) ≤ (t : Int) := by omega
            have hwi : IntKind.i64.wrap ((i : Int) + 1) = (i : Int) + 1 := by rw [IntKind.wrap_i64]; have := HT.out.2; omega
            clear hr hbw hst hrest HL
            go_wp2_with fail
            refine (rat_any (C := (⟨w, z.heap.size, (Re.mk p xs).groups, 0, s, lines⟩ : RCtx)) wr n' p xs ad cp i HIN.out HOK.out rfl HSZ.out (by show i ≤ s.size; have := HT.out.2; omega) HX2.out.2.2.1).mono ?_
            rintro e w' ⟨o', m, v, he, rfl, hst', hbut', hf1, hf2⟩
            have hbw' : Below w.heap.size w w' := HX2.out.2.1.trans (hbut'.below HX2.out.2.1.size (fun k hk => by rw [List.mem_singleton.1 hk]; exact HX.out.2.size))
            have hr' : (Row w' w.heap.size [.int .i64 p.op, .int .u64 p.set.a, .int .u64 p.set.b, .int .u64 p.set.c, .int .u64 p.set.d, .int .i64 p.lo, .int .i64 p.hi, .int .i64 p.gr, .slice ad xs.length cp] 28 ∧ Row w' (w.heap.size + 1) [.slice none 0 0] 35) := ⟨HX2.out.1.1.but hbut' (HX2.out.2.2.1.nX HX2.out.1.1 (by decide)), HX2.out.1.2.but hbut' (HX2.out.2.2.1.nX HX2.out.1.2 (by decide))⟩
            have hwr := HX2.out.2.1.size
            have hll : (EvAt s.data.toList lines (.mk p xs) (Re.mk p xs).groups i (s.data.toList.length + 1 - i) n' o' m) := by rw [HSL.out]; exact he
            have hdd : t + 1 - i = (t - i) + 1 := by omega
            have hmn := (EvAt.left _ _ _ _ he).1
            cases o' with
            | found l =>
              have hf := hf1 l rfl
              obtain ⟨va, vc, rfl⟩ := hf.form
              have HXF := hid (⟨hr', hbw', hst', hf.mono (fun b _ hb => Nat.le_trans hwr hb), HX2.out.2.2.2 _ _ (by rw [hdd]; exact .hit hll (by intro h; cases h))⟩ : _ ∧ _ ∧ _ ∧ SpB (w.heap.size ≤ ·) _ _ _ ∧ _)
              have q5 := hst'.c
              simp only [Out.isOver] at q5
              have hxl : z.heap.size < w'.heap.size := hst'.x.lt
              have hsz := hr'.2.lt
              clear he hst' hbut' hf1 hf2 hbw' hr' hll hf pc p0
              simp only [Out.isFound]
              go_wp2_with fail
              have hal : Below w'.heap.size w' (w'.alloc (.cells #[.slice va l.length vc] 35)) := (Below.refl _ _).alloc (Nat.le_refl _) _
              clear q5
              have HZ := hid (⟨(Row.new (w := w') (cs := [.slice va l.length vc]) (T := 35) rfl), HXF.out.1.2.alloc (.cells #[.slice va l.length vc] 35), HXF.out.2.2.1.later hal⟩ : _ ∧ _ ∧ _)
              have HWZ := hid (⟨HXF.out.2.1.trans (hal.mono HXF.out.2.1.size), HXF.out.2.2.2.1.below hal⟩ : _ ∧ SpB (w.heap.size ≤ ·) _ _ _)
              clear hal
              generalize hwz : w'.alloc (.cells #[.slice va l.length vc] 35) = wz at *
              have hc := HZ.out.2.2.c
              simp only [Out.isOver] at hc
              have hx0 := HZ.out.2.1.cell 0
              have hx1 := HZ.out.2.1.free 0
              have hx2 := HZ.out.1.cell 0
              clear hwz
              go_region
              go_wp2_with fail
              refine bodyPost_ret (results_cell_tmp3 rfl _ _ (w.heap.size + 1) _ _ _ _ rfl (show _ = some (Obj.cells (List.toArray _) _) from (HZ.out.2.1.set 0 (.slice va l.length vc)).drew) Try.underlying35 rfl (by kernel_rfl)) rfl ?_
              refine ⟨.found l, _, _, _, .inr ⟨HC0.out, m, by omega, (by rw [Int.toNat_natCast]; exact HXF.out.2.2.2.2), ?hk, rfl⟩, rfl, (HWZ.out.1.setCell (by simp) _).drew, fun l' hl' => ?_, fun h => (by cases h)⟩
              case hk => first | rfl | (simp; done)
              injection hl' with hl'
              subst hl'
              rcases HWZ.out.2 with ⟨h0, h1⟩ | ⟨h0, b, c, more, e, hb, hr⟩
              · exact .inl ⟨h0, h1⟩
              · exact .inr ⟨h0, b, c, more, e, hb, (hr.other (fun e2 => by subst e2; exact absurd (hr.typed HZ.out.2.1) (by decide)) _ _).drew⟩
            | fail =>
              obtain rfl := hf2 rfl
              have HXF := hid (⟨hr', hbw', hst', fun o2 m2 (h2 : EvFind s.data.toList lines (.mk p xs) (Re.mk p xs).groups (i + 1) (t - i) m o2 m2) => HX2.out.2.2.2 o2 m2 (by rw [hdd]; exact .miss hll h2)⟩ : _ ∧ _ ∧ _ ∧ _)
              have hsz := hr'.2.lt
              have q5 := hst'.c
              simp only [Out.isOver] at q5
              have hxl : z.heap.size < w'.heap.size := hst'.x.lt
              clear he hst' hbut' hf1 hf2 hbw' hr' hll pc p0
              simp only [Out.isFound]
              go_wp2_with fail
              have hal : Below w'.heap.size w' (w'.alloc (.cells #[.slice none 0 0] 35)) := (Below.refl _ _).alloc (Nat.le_refl _) _
              have hrel2 : f ≤ i + 1 ∧ i + 1 ≤ t + 1 ∧ Hid (RFindL (⟨w, z.heap.size, (Re.mk p xs).groups, 0, s, lines⟩ : RCtx) w 0 (.mk p xs) f (t + 1 - f) [.int .i64 p.op, .int .u64 p.set.a, .int .u64 p.set.b, .int .u64 p.set.c, .int .u64 p.set.d, .int .i64 p.lo, .int .i64 p.hi, .int .i64 p.gr, .slice ad xs.length cp] (i + 1) (t + 1 - (i + 1)) (w'.alloc (.cells #[.slice none 0 0] 35))) := ⟨by omega, by omega, ⟨HXF.out.1.1.alloc _, HXF.out.1.2.alloc _⟩, HXF.out.2.1.trans (hal.mono HXF.out.2.1.size), m, by omega, HXF.out.2.2.1.later hal, fun o2 m2 h2 => HXF.out.2.2.2 o2 m2 (by rw [show t + 1 - (i + 1) = t - i by omega] at h2; exact h2)⟩
              refine ⟨?_, ?_⟩
              · exact ⟨i + 1, by go_num, hrel2⟩
              · simp [intOf]; omega
            | over =>
              obtain rfl := hf2 rfl
              have h0 := (EvAt.left _ _ _ _ he).2 rfl
              subst h0
              have HXF := hid (⟨hr', hbw', hst', HX2.out.2.2.2 .over 0 (by rw [hdd]; exact .hit hll (by intro h; cases h))⟩ : _ ∧ _ ∧ _ ∧ _)
              have hsz := hr'.2.lt
              have q5 := hst'.c
              simp only [Out.isOver] at q5
              have hxl : z.heap.size < w'.heap.size := hst'.x.lt
              clear he hst' hbut' hf1 hf2 hbw' hr' hll pc p0
              simp only [Out.isFound]
              go_wp2_with fail
              have hal : Below w'.heap.size w' (w'.alloc (.cells #[.slice none 0 0] 35)) := (Below.refl _ _).alloc (Nat.le_refl _) _
              clear q5
              have HZ := hid (⟨HXF.out.1.2.alloc (.cells #[.slice none 0 0] 35), HXF.out.2.2.1.later hal, HXF.out.2.1.trans (hal.mono HXF.out.2.1.size)⟩ : _ ∧ _ ∧ _)
              clear hal
              generalize hwz : w'.alloc (.cells #[.slice none 0 0] 35) = wz at *
              have hc := HZ.out.2.1.c
              simp only [Out.isOver] at hc
              have hx0 := HZ.out.1.cell 0
              have hx1 := HZ.out.1.free 0
              clear hwz
              go_region
              go_wp2_with fail
              refine bodyPost_ret (results_cell_tmp3 rfl _ _ (w.heap.size + 1) _ _ _ _ rfl (show _ = some (Obj.cells (List.toArray _) _) from (HZ.out.1.set 0 (.slice none 0 0)).drew) Try.underlying35 rfl (by kernel_rfl)) rfl ?_
              exact ⟨.over, _, _, _, .inr ⟨HC0.out, 0, Nat.zero_le _, (by rw [Int.toNat_natCast]; exact HXF.out.2.2.2), by simp, rfl⟩, rfl, (HZ.out.2.2.setCell (by simp) _).drew, fun l hl => (by cases hl), fun _ => rfl⟩
          · have HX2 := hid (⟨hr, hbw, hst, hrest _ _ (by rw [show t + 1 - i = 0 by omega]; exact .none)⟩ : _ ∧ _ ∧ _ ∧ _)
            have hleI : ¬ (i : Int) ≤ (t : Int) := by omega
            clear hr hbw hst hrest HL
            go_wp2_with fail
            clear pc p0
            generalize hwz : wr = wz at *
            have hc := HX2.out.2.2.1.c
            have hx0 := HX2.out.1.2.cell 0
            have hx1 := HX2.out.1.2.free 0
            go_region
            go_wp2_with fail
            refine bodyPost_ret (results_cell_tmp3 rfl _ _ (w.heap.size + 1) _ _ _ _ rfl (show _ = some (Obj.cells (List.toArray _) _) from (HX2.out.1.2.set 0 (.slice none 0 0)).drew) Try.underlying35 rfl (by kernel_rfl)) rfl ?_
            refine ⟨.fail, _, _, _, .inr ⟨HC0.out, n', hn', (by rw [Int.toNat_natCast]; exact HX2.out.2.2.2), ?_, rfl⟩, rfl, (HX2.out.2.1.setCell (by simp) _).drew, fun l hl => (by cases hl), fun _ => rfl⟩
            first | rfl | (simp; done)
  · have HC0 : Hid (chk (.mk p xs) s at_ = (Re.mk p xs).err) := by unfold chk; show (if _ then _ else _) = _; rw [if_pos he]
    have HE := hid he
    have d1 : ((Re.mk p xs).err != 0) = true := by simp [he]
    generalize hce : (Re.mk p xs).err = er at *
    have HCE := hid hce
    clear hce he
    go_wp2_with fail
    refine bodyPost_ret (results_cell_tmp3 rfl _ _ (w.heap.size + 1) _ _ _ _ rfl (show _ = some (Obj.cells (List.toArray _) _) from HX.out.1.2.set 0 (.slice none 0 0)) Try.underlying35 rfl (by kernel_rfl)) rfl ?_
    exact ⟨.fail, 0, er, _, .inl ⟨by rw [HC0.out]; exact HE.out, rfl, rfl, HC0.out.symm⟩, rfl, HX.out.2.setCell (by simp) _, fun l hl => (by cases hl), fun _ => rfl⟩
theorem Api.same {t : Re} {s : ByteArray} {at_ : Int} {d d' : Nat → Nat} {lines : Bool} {B : Nat} {o : Out} {k x : Int} (h : Api t s at_ d lines B o k x) (hd : d at_.toNat = d' at_.toNat) : Api t s at_ d' lines B o k x := by
  unfold Api at *
  rw [← hd]
  exact h
-- def BG := [.int .i64 p.op, .int .u64 p.set.a, .int .u64 p.set.b, .int .u64 p.set.c, .int .u64 p.set.d, .int .i64 p.lo, .int .i64 p.hi, .int .i64 p.gr, .slice ad xs.length cap]
-- def WG := ((w.alloc (.cells #[.int .i64 p.op, .int .u64 p.set.a, .int .u64 p.set.b, .int .u64 p.set.c, .int .u64 p.set.d, .int .i64 p.lo, .int .i64 p.hi, .int .i64 p.gr, .slice ad xs.length cap] 28)).alloc (.cells #[.slice none 0 0] 35))
-- def DAt := (fun _ => 1)
-- def DSearch := (fun f => s.size + 1 - f)
-- def TAt := at_
-- def TSearch := (s.size : Int)
set_option maxRecDepth 100000 in
set_option maxHeartbeats 8000000 in
theorem RBAt_any (w : World) (t : Re) (cs : List Value) (s : ByteArray) (at_ : Int) (lines : Bool) (budget : Int) (B : Nat) (hin : t.In w cs) (hsz : t.size ≤ 1048576) (hs : s.size ≤ 1000000) (hB : max 0 budget = (B : Int)) (hB2 : B ≤ 20000) :
    Calls Try.prog 10 #[.agg cs.toArray, .string s, .int .i64 at_, .bool lines, .int .i64 budget] w (ApiPost (Api t s at_ (fun _ => 1) lines B) w) := by
  cases t with
  | mk p xs =>
    have hin' := hin
    rw [Re.In] at hin
    obtain ⟨ad, cap, rfl, -⟩ := hin
    simp only [Pay.cells] at hin' ⊢
    have R0 : Row ((w.alloc (.cells #[.int .i64 p.op, .int .u64 p.set.a, .int .u64 p.set.b, .int .u64 p.set.c, .int .u64 p.set.d, .int .i64 p.lo, .int .i64 p.hi, .int .i64 p.gr, .slice ad xs.length cap] 28)).alloc (.cells #[.slice none 0 0] 35)) w.heap.size [.int .i64 p.op, .int .u64 p.set.a, .int .u64 p.set.b, .int .u64 p.set.c, .int .u64 p.set.d, .int .i64 p.lo, .int .i64 p.hi, .int .i64 p.gr, .slice ad xs.length cap] 28 := (Row.new rfl).alloc _
    have R1 : Row ((w.alloc (.cells #[.int .i64 p.op, .int .u64 p.set.a, .int .u64 p.set.b, .int .u64 p.set.c, .int .u64 p.set.d, .int .i64 p.lo, .int .i64 p.hi, .int .i64 p.gr, .slice ad xs.length cap] 28)).alloc (.cells #[.slice none 0 0] 35)) (w.heap.size + 1) [.slice none 0 0] 35 := Row.new (by simp)
    have hBl : Below w.heap.size w ((w.alloc (.cells #[.int .i64 p.op, .int .u64 p.set.a, .int .u64 p.set.b, .int .u64 p.set.c, .int .u64 p.set.d, .int .i64 p.lo, .int .i64 p.hi, .int .i64 p.gr, .slice ad xs.length cap] 28)).alloc (.cells #[.slice none 0 0] 35)) := ((Below.refl w.heap.size w).alloc (Nat.le_refl _) _).alloc (by simp) _
    have HRR := hid (⟨R1, hBl⟩ : _ ∧ _)
    have HF := hid (rfind_any ((w.alloc (.cells #[.int .i64 p.op, .int .u64 p.set.a, .int .u64 p.set.b, .int .u64 p.set.c, .int .u64 p.set.d, .int .i64 p.lo, .int .i64 p.hi, .int .i64 p.gr, .slice ad xs.length cap] 28)).alloc (.cells #[.slice none 0 0] 35)) p xs ad cap at_ at_ s lines budget B (hin'.below hBl) hsz (fun h => by have := chk_zero h; omega) hs hB hB2)
    have q0 := R0.c9
    clear R0 R1 hBl hin' hsz hB
    go_enter Try.func10, Try.ntmps10
    go_wp2_with fail
    refine HF.out.mono ?_
    rintro e w2 ⟨o, k, x, v, ha, rfl, hb2, hf1, hf2⟩
    have hz : (((w.alloc (.cells #[.int .i64 p.op, .int .u64 p.set.a, .int .u64 p.set.b, .int .u64 p.set.c, .int .u64 p.set.d, .int .i64 p.lo, .int .i64 p.hi, .int .i64 p.gr, .slice ad xs.length cap] 28)).alloc (.cells #[.slice none 0 0] 35))).heap.size = w.heap.size + 2 := by simp
    have HW := hid (⟨HRR.out.1.below hb2 HRR.out.1.lt, HRR.out.2.trans (hb2.mono (by rw [hz]; omega))⟩ : Row w2 _ _ _ ∧ Below _ _ w2)
    have p3 := HW.out.1.cell 0
    have p4 := HW.out.1.free 0
    have HO := hid (⟨ha, hf1, hf2⟩ : _ ∧ _ ∧ _)
    have hv : ∃ va vn vc, v = .slice va vn vc := by
      cases o with
      | found l => obtain ⟨va, vc, e⟩ := (hf1 l rfl).form; exact ⟨_, _, _, e⟩
      | fail => exact ⟨_, _, _, hf2 rfl⟩
      | over => exact ⟨_, _, _, hf2 rfl⟩
    obtain ⟨va, vn, vc, rfl⟩ := hv
    clear ha hb2 hf1 hf2 q0 HF hz
    generalize hoi : o.isFound = oi at *
    have HOI := hid hoi
    clear hoi
    go_wp2_with fail
    refine bodyPost_ret (results_cell_tmp3 rfl _ _ (w.heap.size + 1) _ _ _ _ rfl (show _ = some (Obj.cells (List.toArray _) _) from HW.out.1.set 0 (.slice va vn vc)) Try.underlying35 rfl (by kernel_rfl)) rfl ?_
    have h1 := HOI.out
    subst h1
    refine ⟨o, k, x, _, HO.out.1.same (by simp), rfl, HW.out.2.setCell (by simp) _, fun l hl => ?_, HO.out.2.2⟩
    rcases HO.out.2.1 l hl with ⟨h0, h1⟩ | ⟨h0, b, c', more, e, hb, hr⟩
    · exact .inl ⟨h0, h1⟩
    · exact .inr ⟨h0, b, c', more, e, by simp at hb; omega, hr.other (fun e2 => by subst e2; exact absurd (hr.typed HW.out.1) (by decide)) _ _⟩
set_option maxRecDepth 100000 in
set_option maxHeartbeats 8000000 in
theorem RBSearch_any (w : World) (t : Re) (cs : List Value) (s : ByteArray) (at_ : Int) (lines : Bool) (budget : Int) (B : Nat) (hin : t.In w cs) (hsz : t.size ≤ 1048576) (hs : s.size ≤ 1000000) (hB : max 0 budget = (B : Int)) (hB2 : B ≤ 20000) :
    Calls Try.prog 13 #[.agg cs.toArray, .string s, .int .i64 at_, .bool lines, .int .i64 budget] w (ApiPost (Api t s at_ (fun f => s.size + 1 - f) lines B) w) := by
  cases t with
  | mk p xs =>
    have hin' := hin
    rw [Re.In] at hin
    obtain ⟨ad, cap, rfl, -⟩ := hin
    simp only [Pay.cells] at hin' ⊢
    have R0 : Row ((w.alloc (.cells #[.int .i64 p.op, .int .u64 p.set.a, .int .u64 p.set.b, .int .u64 p.set.c, .int .u64 p.set.d, .int .i64 p.lo, .int .i64 p.hi, .int .i64 p.gr, .slice ad xs.length cap] 28)).alloc (.cells #[.slice none 0 0] 35)) w.heap.size [.int .i64 p.op, .int .u64 p.set.a, .int .u64 p.set.b, .int .u64 p.set.c, .int .u64 p.set.d, .int .i64 p.lo, .int .i64 p.hi, .int .i64 p.gr, .slice ad xs.length cap] 28 := (Row.new rfl).alloc _
    have R1 : Row ((w.alloc (.cells #[.int .i64 p.op, .int .u64 p.set.a, .int .u64 p.set.b, .int .u64 p.set.c, .int .u64 p.set.d, .int .i64 p.lo, .int .i64 p.hi, .int .i64 p.gr, .slice ad xs.length cap] 28)).alloc (.cells #[.slice none 0 0] 35)) (w.heap.size + 1) [.slice none 0 0] 35 := Row.new (by simp)
    have hBl : Below w.heap.size w ((w.alloc (.cells #[.int .i64 p.op, .int .u64 p.set.a, .int .u64 p.set.b, .int .u64 p.set.c, .int .u64 p.set.d, .int .i64 p.lo, .int .i64 p.hi, .int .i64 p.gr, .slice ad xs.length cap] 28)).alloc (.cells #[.slice none 0 0] 35)) := ((Below.refl w.heap.size w).alloc (Nat.le_refl _) _).alloc (by simp) _
    have HRR := hid (⟨R1, hBl⟩ : _ ∧ _)
    have HF := hid (rfind_any ((w.alloc (.cells #[.int .i64 p.op, .int .u64 p.set.a, .int .u64 p.set.b, .int .u64 p.set.c, .int .u64 p.set.d, .int .i64 p.lo, .int .i64 p.hi, .int .i64 p.gr, .slice ad xs.length cap] 28)).alloc (.cells #[.slice none 0 0] 35)) p xs ad cap at_ (s.size : Int) s lines budget B (hin'.below hBl) hsz (fun h => by have := chk_zero h; omega) hs hB hB2)
    have q0 := R0.c9
    clear R0 R1 hBl hin' hsz hB
    go_enter Try.func13, Try.ntmps13
    go_wp2_with fail
    refine HF.out.mono ?_
    rintro e w2 ⟨o, k, x, v, ha, rfl, hb2, hf1, hf2⟩
    have hz : (((w.alloc (.cells #[.int .i64 p.op, .int .u64 p.set.a, .int .u64 p.set.b, .int .u64 p.set.c, .int .u64 p.set.d, .int .i64 p.lo, .int .i64 p.hi, .int .i64 p.gr, .slice ad xs.length cap] 28)).alloc (.cells #[.slice none 0 0] 35))).heap.size = w.heap.size + 2 := by simp
    have HW := hid (⟨HRR.out.1.below hb2 HRR.out.1.lt, HRR.out.2.trans (hb2.mono (by rw [hz]; omega))⟩ : Row w2 _ _ _ ∧ Below _ _ w2)
    have p3 := HW.out.1.cell 0
    have p4 := HW.out.1.free 0
    have HO := hid (⟨ha, hf1, hf2⟩ : _ ∧ _ ∧ _)
    have hv : ∃ va vn vc, v = .slice va vn vc := by
      cases o with
      | found l => obtain ⟨va, vc, e⟩ := (hf1 l rfl).form; exact ⟨_, _, _, e⟩
      | fail => exact ⟨_, _, _, hf2 rfl⟩
      | over => exact ⟨_, _, _, hf2 rfl⟩
    obtain ⟨va, vn, vc, rfl⟩ := hv
    clear ha hb2 hf1 hf2 q0 HF hz
    generalize hoi : o.isFound = oi at *
    have HOI := hid hoi
    clear hoi
    go_wp2_with fail
    refine bodyPost_ret (results_cell_tmp3 rfl _ _ (w.heap.size + 1) _ _ _ _ rfl (show _ = some (Obj.cells (List.toArray _) _) from HW.out.1.set 0 (.slice va vn vc)) Try.underlying35 rfl (by kernel_rfl)) rfl ?_
    have h1 := HOI.out
    subst h1
    refine ⟨o, k, x, _, HO.out.1.same (by simp), rfl, HW.out.2.setCell (by simp) _, fun l hl => ?_, HO.out.2.2⟩
    rcases HO.out.2.1 l hl with ⟨h0, h1⟩ | ⟨h0, b, c', more, e, hb, hr⟩
    · exact .inl ⟨h0, h1⟩
    · exact .inr ⟨h0, b, c', more, e, by simp at hb; omega, hr.other (fun e2 => by subst e2; exact absurd (hr.typed HW.out.1) (by decide)) _ _⟩
end Go.Proofs.Ytnnocekencaadaa
