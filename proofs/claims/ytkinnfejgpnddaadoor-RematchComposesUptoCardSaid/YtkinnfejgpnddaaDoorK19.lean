/- The reference of layer 9: At and Leftmost. -/
import Derived.Test.YtkinnfejgpnddaaDoorK18
import Derived.Test.YtkinnfejgpnddaaDoorK03
namespace Go.Proofs.YtkinnfejgpnddaaDoor
open Go.RowKit
attribute [local go_sem] gives givesUpon

theorem leftR_hit {t : Re} {s : ByteArray} {lines : Bool} {i : Nat} {r : Spans × Bool × Int} (hi : i ≤ s.size) (hr : r = atR (parsesR t s i lines) i) (h : r.2.1 = true ∨ r.2.2 ≠ 0) : leftR t s lines (s.size + 1 - i) i = r := by
  obtain ⟨d, hd⟩ : ∃ d, s.size + 1 - i = d + 1 := ⟨s.size - i, by omega⟩
  rw [hd, leftR, ← hr, if_pos h]
theorem leftR_miss {t : Re} {s : ByteArray} {lines : Bool} {i : Nat} {r : Spans × Bool × Int} (hi : i ≤ s.size) (hr : r = atR (parsesR t s i lines) i) (h : r.2.1 = false ∧ r.2.2 = 0) : leftR t s lines (s.size + 1 - i) i = leftR t s lines (s.size + 1 - (i + 1)) (i + 1) := by
  obtain ⟨d, hd⟩ : ∃ d, s.size + 1 - i = d + 1 := ⟨s.size - i, by omega⟩
  rw [hd, leftR, ← hr, if_neg (by rw [h.1, h.2]; simp), show s.size + 1 - (i + 1) = d by omega]
/-- What the loop over offsets keeps. -/
def LefL (t : Re) (s : ByteArray) (lines : Bool) (w : World) (BXL : List Value) (f i : Nat) (wr : World) : Prop :=
  (Row wr w.heap.size BXL 28 ∧ Row wr (w.heap.size + 1) [.slice none 0 0] 41) ∧ Below w.heap.size w wr ∧ leftR t s lines (s.size + 1 - f) f = leftR t s lines (s.size + 1 - i) i
end Go.Proofs.YtkinnfejgpnddaaDoor

/- The program of layer 9: At. -/
namespace Go.Proofs.YtkinnfejgpnddaaDoor
open Go.RowKit
attribute [local go_sem] gives givesUpon

set_option maxRecDepth 100000 in
set_option maxHeartbeats 16000000 in
theorem PAt9_any (w : World) (t : Re) (cs : List Value) (s : ByteArray) (at_ : Int) (lines : Bool) (hin : t.In w cs) (hsz : t.size ≤ 20) (hs : s.size ≤ 1000000) (ht : Tabs9 w) :
    Calls Tryd.prog 15 #[.agg cs.toArray, .string s, .int .i64 at_, .bool lines] w (MatchPost w (atR (parsesR t s at_ lines) at_)) := by
  cases t with
  | mk p xs =>
  have hin2 := hin
  rw [Re.In] at hin2
  obtain ⟨ad, cap, rfl, -⟩ := hin2
  simp only [Pay.cells] at hin ⊢
  have hb2 : Below w.heap.size w ((w.alloc (.cells #[.int .i64 p.op, .int .u64 p.set.a, .int .u64 p.set.b, .int .u64 p.set.c, .int .u64 p.set.d, .int .i64 p.lo, .int .i64 p.hi, .int .i64 p.gr, .slice ad xs.length cap] 28)).alloc (.cells #[.slice none 0 0] 41)) := ((Below.refl _ _).alloc (Nat.le_refl _) _).alloc (by simp) _
  have R0 : Row ((w.alloc (.cells #[.int .i64 p.op, .int .u64 p.set.a, .int .u64 p.set.b, .int .u64 p.set.c, .int .u64 p.set.d, .int .i64 p.lo, .int .i64 p.hi, .int .i64 p.gr, .slice ad xs.length cap] 28)).alloc (.cells #[.slice none 0 0] 41)) w.heap.size [.int .i64 p.op, .int .u64 p.set.a, .int .u64 p.set.b, .int .u64 p.set.c, .int .u64 p.set.d, .int .i64 p.lo, .int .i64 p.hi, .int .i64 p.gr, .slice ad xs.length cap] 28 := (Row.new rfl).alloc _
  have R1 : Row ((w.alloc (.cells #[.int .i64 p.op, .int .u64 p.set.a, .int .u64 p.set.b, .int .u64 p.set.c, .int .u64 p.set.d, .int .i64 p.lo, .int .i64 p.hi, .int .i64 p.gr, .slice ad xs.length cap] 28)).alloc (.cells #[.slice none 0 0] 41)) (w.heap.size + 1) [.slice none 0 0] 41 := Row.new (by simp)
  have HR := hid (⟨R0, R1⟩ : _ ∧ _)
  have HB2 := hid hb2
  have q0 := R0.c9
  have hok := (parsesR_ok (t := .mk p xs) (s := s) (at_ := at_) (lines := lines))
  have hp := PParses_any ((w.alloc (.cells #[.int .i64 p.op, .int .u64 p.set.a, .int .u64 p.set.b, .int .u64 p.set.c, .int .u64 p.set.d, .int .i64 p.lo, .int .i64 p.hi, .int .i64 p.gr, .slice ad xs.length cap] 28)).alloc (.cells #[.slice none 0 0] 41)) (.mk p xs) [.int .i64 p.op, .int .u64 p.set.a, .int .u64 p.set.b, .int .u64 p.set.c, .int .u64 p.set.d, .int .i64 p.lo, .int .i64 p.hi, .int .i64 p.gr, .slice ad xs.length cap] s at_ lines (hin.below hb2) hsz hs (ht.on hb2)
  obtain ⟨⟨l, x⟩, hr⟩ : ∃ r, r = parsesR (.mk p xs) s at_ lines := ⟨_, rfl⟩
  rw [← hr] at hp hok ⊢
  have HP := hid hp
  have HOK := hid hok
  clear hin hb2 ht R0 R1 hp hok hr
  go_enter Tryd.func15, Tryd.ntmps15
  go_wp2_with fail
  refine HP.out.mono ?_
  rintro e z ⟨a, c, rfl, hb, hps⟩
  have HZ := hid (⟨⟨HR.out.1.below hb HR.out.1.lt, HR.out.2.below hb HR.out.2.lt⟩, HB2.out.trans (hb.mono HB2.out.size), hps⟩ : (Row z _ _ _ ∧ Row z _ _ _) ∧ Below w.heap.size w z ∧ PsQ _ z _ _)
  clear hb hps q0 HP HB2 HR
  have q1 := HZ.out.1.2.cell 0
  have q2 := HZ.out.1.2.free 0
  dsimp only
  cases l with
  | nil =>
    have HA : Hid (MatchPost w (atR (([] : List Parse), x) at_) (.returned (.tuple #[.agg #[.slice none 0 0], .bool false, .int .i64 x])) (z.setCell ⟨w.heap.size + 1, 0, none⟩ (.slice none 0 0))) :=
      ⟨none, 0, rfl, HZ.out.2.1.setCell (by simp) _, ⟨none, 0, rfl, .inl rfl⟩⟩
    by_cases hx : x = 0
    · subst hx
      go_wp2_with fail
      refine bodyPost_ret (results_cell_tmp2 rfl _ _ (w.heap.size + 1) _ _ _ _ rfl (show _ = some (Obj.cells (List.toArray _) _) from HZ.out.1.2.set 0 (.slice none 0 0)) Tryd.underlying41 rfl (by kernel_rfl)) rfl ?_
      exact HA.out
    · go_wp2_with fail
      refine bodyPost_ret (results_cell_tmp2 rfl _ _ (w.heap.size + 1) _ _ _ _ rfl (show _ = some (Obj.cells (List.toArray _) _) from HZ.out.1.2.set 0 (.slice none 0 0)) Tryd.underlying41 rfl (by kernel_rfl)) rfl ?_
      exact HA.out
  | cons q l =>
    have hx := (HOK.out.2 (by simp)).2
    subst hx
    obtain ⟨b, c', q1', q2', sa, sc, hq, ev, hbz, hpb, -, p0, p1, hsq⟩ := HZ.out.2.2.get (k := 0) (by simp)
    have hq' := Option.some.inj hq
    subst hq'
    injection ev with e1 e2 e3
    subst e1; subst e3
    clear e2 hq
    obtain ⟨n, hn⟩ : ∃ n, n = ((q1', q2') :: l).length := ⟨_, rfl⟩
    have hpos : 0 < n := by rw [hn]; simp
    have hposI : (0 : Int) < (n : Int) := by omega
    have hnz : ((n : Int) == 0) = false := by simp; omega
    have HSQ := hid hsq
    have HC0 := hid (⟨p0, p1, hbz⟩ : _ ∧ _ ∧ _)
    have hl9 : q2'.length ≤ 100 := by
      have h1 := (HOK.out.1 (q1', q2') (by simp)).2.2.1
      have h2 := (Re.ok_err (chk_zero (HOK.out.2 (by simp)).1).1).2.1
      dsimp only at h1
      omega
    have HC := hid (fun (y : World) (hy : Grow z.drew y) => (⟨((grow_below hy).cell (p := ⟨b, 0 * 2, none⟩) HC0.out.2.2).trans HC0.out.1, ((grow_below hy).cell (p := ⟨b, 0 * 2 + 1, none⟩) HC0.out.2.2).trans HC0.out.2.1⟩ : _ ∧ _))
    have HSP := hid (fun (y : World) (hy : Grow z.drew y) => HSQ.out.below (grow_below hy))
    have HR2 := hid (fun (y : World) (hy : Grow z.drew y) => (⟨HZ.out.1.2.below (grow_below hy) HZ.out.1.2.lt, HZ.out.2.1.trans ((grow_below hy).mono HZ.out.2.1.size)⟩ : Row y (w.heap.size + 1) _ _ ∧ Below w.heap.size w y))
    rw [← hn]
    simp only [Nat.zero_mul, Nat.zero_add] at p0 p1 HC
    clear hsq hbz hn hpb
    go_upto_region 4 with fail
    refine wp_region_inv 13 (Grow) (by kernel_rfl) (by kernel_rfl) (Grow.refl) (fun _ _ _ => Grow.trans) ?_
    simp only [fill, dstOf, Act.put, List.take_succ_cons, List.take_zero, List.getElem?_toArray, List.getElem?_cons_zero, List.getElem?_cons_succ, Option.bind_some, List.setIfInBounds_toArray, List.set_cons_zero, List.set_cons_succ]
    refine Plan.det 1 rfl (Grow.refl) ?_
    apply Exists.intro
    refine ⟨fun vs x hR hF K hK => ?_, ?_⟩
    · clear hF
      go_simp
      exact hK _ _ (Grow.refl _) rfl
    refine Plan.det 2 rfl (Grow.refl) ?_
    apply Exists.intro
    refine ⟨fun vs x hR hF K hK => ?_, ?_⟩
    · clear hF
      go_simp
      exact hK _ _ (Grow.refl _) rfl
    refine Plan.det 3 rfl (Grow.refl) ?_
    apply Exists.intro
    refine ⟨fun vs x hR hF K hK => ?_, ?_⟩
    · have f1 := hF 0 _ _ rfl rfl; clear hF
      go_simp
      exact hK _ _ (Grow.refl _) rfl
    refine Plan.det 4 rfl (Grow.refl) ?_
    apply Exists.intro
    refine ⟨fun vs x hR hF K hK => ?_, ?_⟩
    · have f2 := hF 0 _ _ rfl rfl; clear hF
      go_simp
      exact hK _ _ (Grow.refl _) rfl
    refine Plan.det 5 rfl (Grow.refl) ?_
    apply Exists.intro
    refine ⟨fun vs x hR hF K hK => ?_, ?_⟩
    · have f3 := hF 0 _ _ rfl rfl; have hc := HC.out x hR; clear hF
      go_simp
      exact hK _ _ (Grow.refl _) rfl
    refine Plan.det 6 rfl (Grow.refl) ?_
    apply Exists.intro
    refine ⟨fun vs x hR hF K hK => ?_, ?_⟩
    · have f0 := hF 4 _ _ rfl rfl; have f4 := hF 0 _ _ rfl rfl; clear hF
      go_simp
      exact hK _ _ (Grow.refl _) rfl
    refine Plan.rel 7 rfl (Grow.refl) (fun v y => ∃ (b5 : Nat), v = .slice (some ⟨b5, 0, none⟩) 1 1 ∧ Row y b5 [.int .i64 at_, .int .i64 q1'] 46) (fun v y z hR ⟨b5, h1, h2⟩ => ⟨b5, h1, h2.below hR h2.lt⟩) (fun vs x hR hF K hK => ?_) ?_
    · have f5 := hF 0 _ _ rfl rfl
      go_simp
      exact hK _ _ (Grow.alloc _ _) ⟨_, rfl, Row.at _ _ _⟩
    refine Plan.det 8 rfl (Grow.refl) ?_
    apply Exists.intro
    refine ⟨fun vs x hR hF K hK => ?_, ?_⟩
    · clear hF
      go_simp
      exact hK _ _ (Grow.refl _) rfl
    refine Plan.det 9 rfl (Grow.refl) ?_
    apply Exists.intro
    refine ⟨fun vs x hR hF K hK => ?_, ?_⟩
    · have f7 := hF 0 _ _ rfl rfl; clear hF
      go_simp
      exact hK _ _ (Grow.refl _) rfl
    refine Plan.det 10 rfl (Grow.refl) ?_
    apply Exists.intro
    refine ⟨fun vs x hR hF K hK => ?_, ?_⟩
    · have f8 := hF 0 _ _ rfl rfl; clear hF
      go_simp
      exact hK _ _ (Grow.refl _) rfl
    refine Plan.det 11 rfl (Grow.refl) ?_
    apply Exists.intro
    refine ⟨fun vs x hR hF K hK => ?_, ?_⟩
    · have f9 := hF 0 _ _ rfl rfl; have hc := HC.out x hR; clear hF
      go_simp
      exact hK _ _ (Grow.refl _) rfl
    refine Plan.rel 12 rfl (Grow.refl) (fun v y => ∃ (a2 : Option Addr) (c2 : Nat), v = .slice a2 (q2'.length + 1) c2 ∧ SpQ y (.slice a2 (q2'.length + 1) c2) ((at_, (q1' : Int)) :: q2')) (fun v y z hR ⟨a1, c1, h1, h2⟩ => ⟨a1, c1, h1, h2.below hR⟩) (fun vs x hR hF K hK => ?_) ?_
    · have f6 := hF 4 _ _ rfl rfl; have f10 := hF 0 _ _ rfl rfl
      obtain ⟨b5, e6, r6⟩ := f6
      refine gives_append_head _ _ rfl _ at_ q1' q2' _ e6 r6 f10 (HSP.out x hR) hl9 ?_
      intro a2 c2 w9 hb9 hs9
      exact hK _ _ hb9 ⟨a2, c2, rfl, hs9⟩
    refine Plan.rel 13 rfl (Grow.refl) (fun v y => ∃ (a2 : Option Addr) (c2 : Nat), v = .agg #[.slice a2 (q2'.length + 1) c2] ∧ SpQ y (.slice a2 (q2'.length + 1) c2) ((at_, (q1' : Int)) :: q2')) (fun v y z hR ⟨a1, c1, h1, h2⟩ => ⟨a1, c1, h1, h2.below hR⟩) (fun vs x hR hF K hK => ?_) ?_
    · have f11 := hF 0 _ _ rfl rfl
      obtain ⟨a2, c2, e9, h9⟩ := f11
      simp only [e9] at *
      go_simp
      exact hK _ _ (Grow.refl _) ⟨a2, c2, rfl, h9⟩
    refine Plan.nil (fun vs x hR hF => ?_)
    have f0 := hF 12 _ _ rfl; have f1 := hF 11 _ _ rfl; have f2 := hF 10 _ _ rfl; have f3 := hF 9 _ _ rfl; have f4 := hF 8 _ _ rfl; have f5 := hF 7 _ _ rfl; have f6 := hF 6 _ _ rfl; have f7 := hF 5 _ _ rfl; have f8 := hF 4 _ _ rfl; have f9 := hF 3 _ _ rfl; have f10 := hF 2 _ _ rfl; have f11 := hF 1 _ _ rfl; have f12 := hF 0 _ _ rfl
    clear hF
    simp only [f0, f1, f2, f3, f4, f5, f7, f8, f9, f10]
    clear f0 f1 f2 f3 f4 f5 f7 f8 f9 f10
    simp only [List.drop_succ_cons, List.drop_zero]
    obtain ⟨a2, c2, ev6, hs6⟩ := f12
    simp only [ev6]
    obtain ⟨T0, hb9⟩ := HR2.out x hR
    have hlx : w.heap.size + 1 < x.heap.size := T0.lt
    have p5 := T0.cell 0
    have p4 := T0.free 0
    have HT := hid T0
    have HFIN : Hid (MatchPost w (atR ((q1', q2') :: l, (0 : Int)) at_) (.returned (.tuple #[.agg #[.slice a2 (q2'.length + 1) c2], .bool true, .int .i64 0])) (x.setCell ⟨w.heap.size + 1, 0, none⟩ (.slice a2 (q2'.length + 1) c2))) := by
      refine ⟨a2, c2, rfl, hb9.setCell (by simp) _, ?_⟩
      exact hs6.of fun b8 cs8 hr8 => hr8.other (fun e => by subst e; exact absurd (hr8.typed T0) (by decide)) _ _
    clear T0 hs6 hb9 HC HSP HR2 HC0 hR p0 p1 q1 q2 f6 f11
    go_wp2_with fail
    refine bodyPost_ret (results_cell_tmp2 rfl _ _ (w.heap.size + 1) _ _ _ _ rfl (show _ = some (Obj.cells (List.toArray _) _) from HT.out.set 0 (.slice a2 (q2'.length + 1) c2)) Tryd.underlying41 rfl (by kernel_rfl)) rfl ?_
    exact HFIN.out
end Go.Proofs.YtkinnfejgpnddaaDoor

/- The program of layer 9: Leftmost. -/
namespace Go.Proofs.YtkinnfejgpnddaaDoor
open Go.RowKit
attribute [local go_sem] gives givesUpon

set_option maxRecDepth 100000 in
set_option maxHeartbeats 16000000 in
theorem PLeft_any (w : World) (t : Re) (cs : List Value) (s : ByteArray) (at_ : Int) (lines : Bool) (hin : t.In w cs) (hsz : t.size ≤ 20) (hs : s.size ≤ 1000000) (ht : Tabs9 w) :
    Calls Tryd.prog 17 #[.agg cs.toArray, .string s, .int .i64 at_, .bool lines] w (MatchPost w (leftmostR t s at_ lines)) := by
  cases t with
  | mk p xs =>
  have hin2 := hin
  rw [Re.In] at hin2
  obtain ⟨ad, cap, rfl, -⟩ := hin2
  simp only [Pay.cells] at hin ⊢
  have hb2 : Below w.heap.size w ((w.alloc (.cells #[.int .i64 p.op, .int .u64 p.set.a, .int .u64 p.set.b, .int .u64 p.set.c, .int .u64 p.set.d, .int .i64 p.lo, .int .i64 p.hi, .int .i64 p.gr, .slice ad xs.length cap] 28)).alloc (.cells #[.slice none 0 0] 41)) := ((Below.refl _ _).alloc (Nat.le_refl _) _).alloc (by simp) _
  have R0 : Row ((w.alloc (.cells #[.int .i64 p.op, .int .u64 p.set.a, .int .u64 p.set.b, .int .u64 p.set.c, .int .u64 p.set.d, .int .i64 p.lo, .int .i64 p.hi, .int .i64 p.gr, .slice ad xs.length cap] 28)).alloc (.cells #[.slice none 0 0] 41)) w.heap.size [.int .i64 p.op, .int .u64 p.set.a, .int .u64 p.set.b, .int .u64 p.set.c, .int .u64 p.set.d, .int .i64 p.lo, .int .i64 p.hi, .int .i64 p.gr, .slice ad xs.length cap] 28 := (Row.new rfl).alloc _
  have R1 : Row ((w.alloc (.cells #[.int .i64 p.op, .int .u64 p.set.a, .int .u64 p.set.b, .int .u64 p.set.c, .int .u64 p.set.d, .int .i64 p.lo, .int .i64 p.hi, .int .i64 p.gr, .slice ad xs.length cap] 28)).alloc (.cells #[.slice none 0 0] 41)) (w.heap.size + 1) [.slice none 0 0] 41 := Row.new (by simp)
  have HR := hid (⟨R0, R1⟩ : _ ∧ _)
  have HB2 := hid hb2
  have q0 := R0.c9
  have HCK := hid (pcheck_any ((w.alloc (.cells #[.int .i64 p.op, .int .u64 p.set.a, .int .u64 p.set.b, .int .u64 p.set.c, .int .u64 p.set.d, .int .i64 p.lo, .int .i64 p.hi, .int .i64 p.gr, .slice ad xs.length cap] 28)).alloc (.cells #[.slice none 0 0] 41)) (.mk p xs) [.int .i64 p.op, .int .u64 p.set.a, .int .u64 p.set.b, .int .u64 p.set.c, .int .u64 p.set.d, .int .i64 p.lo, .int .i64 p.hi, .int .i64 p.gr, .slice ad xs.length cap] s at_ (hin.below hb2) hsz hs)
  have HT := hid ht
  have HIN := hid hin
  clear hin hb2 R0 R1 ht
  go_enter Tryd.func17, Tryd.ntmps17
  go_wp2_with fail
  refine HCK.out.mono ?_
  rintro e z ⟨rfl, hb⟩
  have HZ := hid (⟨⟨HR.out.1.below hb HR.out.1.lt, HR.out.2.below hb HR.out.2.lt⟩, HB2.out.trans (hb.mono HB2.out.size)⟩ : (Row z _ _ _ ∧ Row z _ _ _) ∧ Below w.heap.size w z)
  clear hb q0 HCK HB2 HR
  have q0 := HZ.out.1.1.c9
  have q1 := HZ.out.1.2.cell 0
  have q2 := HZ.out.1.2.free 0
  obtain ⟨er, her⟩ : ∃ er, er = chk (.mk p xs) s at_ := ⟨_, rfl⟩
  have HER := hid her
  rw [← her]
  clear her
  by_cases he : er = 0
  · subst he
    · have hc : chk (.mk p xs) s at_ = 0 := HER.out.symm
      obtain ⟨h1, h2, h3⟩ := chk_zero hc
      obtain ⟨f, rfl⟩ : ∃ f : Nat, at_ = f := ⟨at_.toNat, by omega⟩
      have hf : f ≤ s.size := by omega
      have hfs : ¬ (s.size : Int) < (f : Int) := by omega
      have hf0 : ¬ (f : Int) < 0 := by omega
      have HLM : Hid (leftmostR (.mk p xs) s f lines = leftR (.mk p xs) s lines (s.size + 1 - f) f) := by show _ = _; unfold leftmostR; rw [if_neg (by simp [hc])]; rfl
      have HST : Hid (LefL (.mk p xs) s lines w [.int .i64 p.op, .int .u64 p.set.a, .int .u64 p.set.b, .int .u64 p.set.c, .int .u64 p.set.d, .int .i64 p.lo, .int .i64 p.hi, .int .i64 p.gr, .slice ad xs.length cap] f f z) := ⟨HZ.out.1, HZ.out.2, rfl⟩
      have hzlt := HZ.out.1.2.lt
      clear hc h1 h2 h3 HER HZ q0 q1 q2
      go_wp2_with fail
      go_loopw [12] (fun v wr => ∃ i : Nat, v = .int .i64 i ∧ f ≤ i ∧ i ≤ s.size + 1 ∧ Hid (LefL (.mk p xs) s lines w [.int .i64 p.op, .int .u64 p.set.a, .int .u64 p.set.b, .int .u64 p.set.c, .int .u64 p.set.d, .int .i64 p.lo, .int .i64 p.hi, .int .i64 p.gr, .slice ad xs.length cap] f i wr)) (fun v _ => s.size + 1 - (intOf v).toNat)
      case atStart => exact ⟨f, rfl, Nat.le_refl _, by omega, HST.out⟩
      case round =>
        obtain ⟨i, rfl, hfi, his, HX⟩ := hrel
        have q0 := HX.out.1.1.c9
        have q1 := HX.out.1.2.cell 0
        have q2 := HX.out.1.2.free 0
        by_cases hle : i ≤ s.size
        · have hleI : (i : Int) ≤ (s.size : Int) := by omega
          have hwi : IntKind.i64.wrap ((i : Int) + 1) = (i : Int) + 1 := by rw [IntKind.wrap_i64]; omega
          have ha := PAt9_any wr (.mk p xs) [.int .i64 p.op, .int .u64 p.set.a, .int .u64 p.set.b, .int .u64 p.set.c, .int .u64 p.set.d, .int .i64 p.lo, .int .i64 p.hi, .int .i64 p.gr, .slice ad xs.length cap] s i lines (HIN.out.below HX.out.2.1) hsz hs (HT.out.on HX.out.2.1)
          obtain ⟨⟨spr, okr, xr⟩, hr⟩ : ∃ r, r = atR (parsesR (.mk p xs) s i lines) i := ⟨_, rfl⟩
          rw [← hr] at ha
          have HA := hid ha
          have HRR := hid hr
          clear ha hr
          go_wp2_with fail
          refine HA.out.mono ?_
          rintro e z2 ⟨a, c, rfl, hb, hsq⟩
          have HZ2 := hid (⟨⟨HX.out.1.1.below hb HX.out.1.1.lt, HX.out.1.2.below hb HX.out.1.2.lt⟩, HX.out.2.1.trans (hb.mono HX.out.2.1.size), hsq⟩ : (Row z2 _ _ _ ∧ Row z2 _ _ _) ∧ Below w.heap.size w z2 ∧ SpQ z2 _ _)
          clear hb hsq q0 q1 q2
          dsimp only at HZ2 ⊢
          go_upto_region 8 with fail
          have hal : Below z2.heap.size z2 (z2.alloc (.cells #[.slice a spr.length c] 41)) := (Below.refl _ _).alloc (Nat.le_refl _) _
          have HZ3 := hid (⟨⟨HZ2.out.1.1.alloc (.cells #[.slice a spr.length c] 41), HZ2.out.1.2.alloc (.cells #[.slice a spr.length c] 41)⟩, HZ2.out.2.1.trans (hal.mono HZ2.out.2.1.size), HZ2.out.2.2.below hal, Row.new (w := z2) (cs := [.slice a spr.length c]) (T := 41) rfl⟩ : (Row _ _ _ _ ∧ Row _ _ _ _) ∧ Below w.heap.size w _ ∧ SpQ _ _ _ ∧ Row (z2.alloc (.cells #[.slice a spr.length c] 41)) z2.heap.size _ _)
          clear hal
          generalize (z2.alloc (.cells #[.slice a spr.length c] 41)) = z3 at HZ3 ⊢
          have q1 := HZ3.out.1.2.cell 0
          have q2 := HZ3.out.1.2.free 0
          have q3 := HZ3.out.2.2.2.cell 0
          have hcase : (xr = 0 ∧ okr = false) ∨ ((okr = true ∨ (okr = false ∧ ¬ xr = 0)) ∧ Hid (okr = true ∨ xr ≠ 0)) := by
            unfold Hid
            by_cases h1 : xr = 0 <;> cases okr <;> simp [h1]
          rcases hcase with ⟨h1, h2⟩ | ⟨h1 | ⟨h1, h2⟩, HH⟩
          · subst h1; subst h2
            have HN : Hid (LefL (.mk p xs) s lines w [.int .i64 p.op, .int .u64 p.set.a, .int .u64 p.set.b, .int .u64 p.set.c, .int .u64 p.set.d, .int .i64 p.lo, .int .i64 p.hi, .int .i64 p.gr, .slice ad xs.length cap] f (i + 1) z3) := ⟨HZ3.out.1, HZ3.out.2.1, by rw [HX.out.2.2]; exact leftR_miss hle HRR.out ⟨rfl, rfl⟩⟩
            clear HZ2 HZ3 q1 q2 q3 HX HST
            go_wp2_with fail
            refine ⟨⟨i + 1, by go_num, by omega, by omega, HN.out⟩, ?_⟩
            simp [intOf] <;> omega
          all_goals
            have hres : leftmostR (.mk p xs) s f lines = _ := HLM.out.trans (HX.out.2.2.trans (leftR_hit hle HRR.out HH.out))
            have HF : Hid (MatchPost w (leftmostR (.mk p xs) s f lines) (.returned (.tuple #[.agg #[.slice a spr.length c], .bool okr, .int .i64 xr])) (z3.setCell ⟨w.heap.size + 1, 0, none⟩ (.slice a spr.length c))) := by
              rw [hres]
              refine ⟨a, c, rfl, HZ3.out.2.1.setCell (by simp) _, HZ3.out.2.2.1.of fun b8 cs8 hr8 => hr8.other (fun e => by subst e; exact absurd (hr8.typed HZ3.out.1.2) (by decide)) _ _⟩
            clear hres
            try subst h1
            try subst h2
            go_wp2_with fail
            refine bodyPost_ret (results_cell_tmp2 rfl _ _ (w.heap.size + 1) _ _ _ _ rfl (show _ = some (Obj.cells (List.toArray _) _) from HZ3.out.1.2.set 0 (.slice a spr.length c)) Tryd.underlying41 rfl (by kernel_rfl)) rfl ?_
            exact HF.out
        · obtain rfl : i = s.size + 1 := by omega
          have hleI : ¬ ((s.size + 1 : Nat) : Int) ≤ (s.size : Int) := by omega
          have HF : Hid (MatchPost w (leftmostR (.mk p xs) s f lines) (.returned (.tuple #[.agg #[.slice none 0 0], .bool false, .int .i64 0])) (wr.setCell ⟨w.heap.size + 1, 0, none⟩ (.slice none 0 0))) := by
            have : leftmostR (.mk p xs) s f lines = ([], false, 0) := by rw [HLM.out, HX.out.2.2, Nat.sub_self]; rfl
            rw [this]
            exact ⟨none, 0, rfl, HX.out.2.1.setCell (by simp) _, ⟨none, 0, rfl, .inl rfl⟩⟩
          have HX2 := hid HX.out.1.2
          clear HX HST HLM
          go_wp2_with fail
          refine bodyPost_ret (results_cell_tmp2 rfl _ _ (w.heap.size + 1) _ _ _ _ rfl (show _ = some (Obj.cells (List.toArray _) _) from HX2.out.set 0 (.slice none 0 0)) Tryd.underlying41 rfl (by kernel_rfl)) rfl ?_
          exact HF.out
  · have hc : chk (.mk p xs) s at_ = er := HER.out.symm
    have HA : Hid (MatchPost w (leftmostR (.mk p xs) s at_ lines) (.returned (.tuple #[.agg #[.slice none 0 0], .bool false, .int .i64 er])) (z.setCell ⟨w.heap.size + 1, 0, none⟩ (.slice none 0 0))) := by
      have : leftmostR (.mk p xs) s at_ lines = ([], false, er) := by unfold leftmostR; rw [hc, if_pos he]
      rw [this]
      exact ⟨none, 0, rfl, HZ.out.2.setCell (by simp) _, ⟨none, 0, rfl, .inl rfl⟩⟩
    clear hc HER
    go_wp2_with fail
    refine bodyPost_ret (results_cell_tmp2 rfl _ _ (w.heap.size + 1) _ _ _ _ rfl (show _ = some (Obj.cells (List.toArray _) _) from HZ.out.1.2.set 0 (.slice none 0 0)) Tryd.underlying41 rfl (by kernel_rfl)) rfl ?_
    exact HA.out
end Go.Proofs.YtkinnfejgpnddaaDoor

/- The laws of layer 9: few. -/
namespace Go.Proofs.YtkinnfejgpnddaaDoor
open Go.RowKit
attribute [local go_sem] gives givesUpon

theorem sizes_take9 : ∀ (xs : List Re) (j : Nat) (h : j < xs.length), Re.sizes (xs.take (j + 1)) = Re.sizes (xs.take j) + xs[j].size
  | x :: xs, 0, _ => by
    show Re.sizes [x] = Re.sizes [] + x.size
    have h1 : Re.sizes [x] = x.size + 0 := rfl
    have h2 : Re.sizes ([] : List Re) = 0 := rfl
    omega
  | x :: xs, j + 1, h => by
    have hj : j < xs.length := by simpa using h
    have h0 := sizes_take9 xs j hj
    have h1 : Re.sizes (x :: xs.take (j + 1)) = x.size + Re.sizes (xs.take (j + 1)) := rfl
    have h2 : Re.sizes (x :: xs.take j) = x.size + Re.sizes (xs.take j) := rfl
    show Re.sizes (x :: xs.take (j + 1)) = Re.sizes (x :: xs.take j) + (xs[j]'hj).size
    omega
set_option maxRecDepth 100000 in
set_option maxHeartbeats 8000000 in
theorem count9_any (wb : World) (t : Re) : ∀ (w : World) (cs : List Value) (n lv : Nat), t.In wb cs → Below wb.heap.size wb w → n ≤ 1000 → lv ≤ 8 →
    Calls Tryd.prog 36 #[.agg cs.toArray, .int .i64 n, .int .i64 lv] w fun e w' => ∃ r : Nat, r ≤ n + 1 ∧ (r ≤ n → t.size = r) ∧ e = .returned (.int .i64 r) ∧ Below w.heap.size w w' := by
  induction t using Re.ind with
  | h p xs ih =>
    intro w cs n lv hIn hbw hn hlv
    rw [Re.In] at hIn
    obtain ⟨ad, cap, rfl, hwf, hlc, hcm, hnil, hall⟩ := hIn
    have HIH := hid ih
    have HAL := hid hall
    have HBW := hid hbw
    clear ih hall hwf hbw
    simp only [Pay.cells]
    have hr0 := (Row.new (w := w) (cs := [.int .i64 p.op, .int .u64 p.set.a, .int .u64 p.set.b, .int .u64 p.set.c, .int .u64 p.set.d, .int .i64 p.lo, .int .i64 p.hi, .int .i64 p.gr, .slice ad xs.length cap]) (T := 28) rfl)
    have HR0 := hid hr0
    have q0 := hr0.c9
    have HAL0 := hid ((Below.refl w.heap.size w).alloc (Nat.le_refl _) (.cells #[.int .i64 p.op, .int .u64 p.set.a, .int .u64 p.set.b, .int .u64 p.set.c, .int .u64 p.set.d, .int .i64 p.lo, .int .i64 p.hi, .int .i64 p.gr, .slice ad xs.length cap] 28))
    clear hr0
    by_cases hbad : lv = 0 ∨ 6 < xs.length ∨ 4 < p.lo ∨ 4 < p.hi
    · by_cases h1 : lv = 0
      · subst h1
        go_enter Tryd.func36, Tryd.ntmps36
        go_wp2_with fail
        go_ret
        exact ⟨n + 1, Nat.le_refl _, fun h => absurd h (by omega), by simp, HAL0.out⟩
      · have d1 : ((lv : Int) == 0) = false := by simp; omega
        by_cases h2 : 6 < xs.length
        · have h2I : (6 : Int) < xs.length := by omega
          clear h1
          go_enter Tryd.func36, Tryd.ntmps36
          go_wp2_with fail
          go_ret
          exact ⟨n + 1, Nat.le_refl _, fun h => absurd h (by omega), by simp, HAL0.out⟩
        · have h2I : ¬ (6 : Int) < xs.length := by omega
          by_cases h3 : 4 < p.lo
          · clear h1
            go_enter Tryd.func36, Tryd.ntmps36
            go_wp2_with fail
            go_ret
            exact ⟨n + 1, Nat.le_refl _, fun h => absurd h (by omega), by simp, HAL0.out⟩
          · have h4 : 4 < p.hi := by omega
            clear h1
            go_enter Tryd.func36, Tryd.ntmps36
            go_wp2_with fail
            go_ret
            exact ⟨n + 1, Nat.le_refl _, fun h => absurd h (by omega), by simp, HAL0.out⟩
    · have d1 : ((lv : Int) == 0) = false := by simp; omega
      have h2 : ¬ 6 < xs.length := by omega
      have h2I : ¬ (6 : Int) < xs.length := by omega
      have h3 : ¬ 4 < p.lo := by omega
      have h4 : ¬ 4 < p.hi := by omega
      have hl0 : 0 < lv := by omega
      clear hbad
      go_enter Tryd.func36, Tryd.ntmps36
      go_wp2_with fail
      go_loopw [7, 8] (fun v i wr => ∃ (k j : Nat), k ≤ n + 1 ∧ j ≤ xs.length ∧ v = .int .i64 k ∧ i = .int .i64 j ∧ Hid ((Row wr w.heap.size [.int .i64 p.op, .int .u64 p.set.a, .int .u64 p.set.b, .int .u64 p.set.c, .int .u64 p.set.d, .int .i64 p.lo, .int .i64 p.hi, .int .i64 p.gr, .slice ad xs.length cap] 28 ∧ Below w.heap.size w wr) ∧ (k ≤ n → 1 + Re.sizes (xs.take j) = k))) (fun _ i _ => xs.length - (intOf i).toNat)
      case atStart => exact ⟨1, 0, by omega, Nat.zero_le _, rfl, rfl, ⟨HR0.out, HAL0.out⟩, fun _ => by rw [List.take_zero]; rfl⟩
      case round =>
        obtain ⟨k, j, hk, hj, rfl, rfl, HX0⟩ := hrel
        have HX := hid HX0.out.1
        have HKK := hid HX0.out.2
        clear HX0
        have q1 := HX.out.1.c9
        clear q0
        by_cases hlt : j < xs.length
        · by_cases hkn : k ≤ n
          · have HBL : Hid (Below wb.heap.size wb wr) := HBW.out.trans (HX.out.2.mono HBW.out.size)
            obtain ⟨b, o, p', ad', n', cap', rfl, HC, HI0, hbb⟩ := HAL.out.kid HBL.out j hlt
            have hjI : (j : Int) < xs.length := by omega
            have hkI : (k : Int) ≤ n := by omega
            go_wp2_with (first | (with_reducible (refine wpList_load_agg rfl 28 _ rfl b (o + (j * 9)) rfl _ _ HC.out Tryd.underlying28 rfl (size_re9 _ _ _ _ _ _ _ _ _) ?_)))
            have H1 := HIH.out xs[j] (List.getElem_mem _) wr _ (n - k) (lv - 1) HI0.out HBL.out (by omega) (by omega)
            rw [show ((n - k : Nat) : Int) = (n : Int) - k by omega, show ((lv - 1 : Nat) : Int) = (lv : Int) - 1 by omega] at H1
            refine H1.mono ?_
            clear H1
            rintro e w2 ⟨r, hr, hrs, rfl, hb2⟩
            have HKN : Hid (k + r ≤ n → 1 + Re.sizes (xs.take (j + 1)) = k + r) := fun h => by
              rw [sizes_take9 xs j hlt, ← HKK.out hkn, ← hrs (by omega)]; omega
            clear hrs
            have HX2 := hid (⟨HX.out.1.below hb2 HX.out.1.lt, HX.out.2.trans (hb2.mono HX.out.2.size)⟩ : Row w2 _ _ _ ∧ Below _ _ w2)
            clear hb2
            go_wp2_with fail
            refine ⟨⟨k + r, j + 1, by omega, by omega, by go_num, by go_num, HX2.out, HKN.out⟩, ?_⟩
            simp [intOf]; omega
          · have hkI : ¬ (k : Int) ≤ n := by omega
            have hjI : (j : Int) < xs.length := by omega
            go_wp2_with fail
            go_ret
            exact ⟨k, hk, fun h => absurd h hkn, rfl, HX.out.2⟩
        · have hjI : ¬ (j : Int) < xs.length := by omega
          go_wp2_with fail
          go_ret
          exact ⟨k, hk, fun h => by have h9 := HKK.out h; rw [List.take_of_length_le (by omega)] at h9; rw [Re.size_mk]; omega, rfl, HX.out.2⟩
set_option maxHeartbeats 2000000 in
theorem Small9_any (w : World) (t : Re) (cs : List Value) (n : Nat) (hin : t.In w cs) (hn : n ≤ 1000) :
    Calls Tryd.prog 22 #[.agg cs.toArray, .int .i64 n] w fun e w' => ∃ b, e = .returned (.bool b) ∧ (b = true → t.size ≤ n) ∧ Below w.heap.size w w' := by
  obtain ⟨p, ad, m, c, rfl⟩ := Re.cells_shape hin
  have HI := hid hin
  have HB := hid ((Below.refl w.heap.size w).alloc (Nat.le_refl _) (.cells #[.int .i64 p.op, .int .u64 p.set.a, .int .u64 p.set.b, .int .u64 p.set.c, .int .u64 p.set.d, .int .i64 p.lo, .int .i64 p.hi, .int .i64 p.gr, .slice ad m c] 28))
  clear hin
  go_enter Tryd.func22, Tryd.ntmps22
  go_wp2_with fail
  refine (count9_any w t _ _ n 8 HI.out HB.out hn (by omega)).mono ?_
  rintro e w1 ⟨r, hr, hrs, rfl, hb⟩
  have HRS := hid hrs
  clear hrs
  have HB1 := hid (HB.out.trans (hb.mono (by simp)))
  clear hb
  by_cases h : (r : Int) ≤ n
  · go_wp2_with fail
    go_ret
    exact ⟨_, rfl, fun _ => by have := HRS.out (by omega); omega, HB1.out⟩
  · go_wp2_with fail
    go_ret
    exact ⟨_, rfl, fun hb => absurd hb (by simp; omega), HB1.out⟩
/-- What few says. -/
def FewP9 (t : Re) (s : ByteArray) (w : World) (e : Ending) (w' : World) : Prop := ∃ b, e = .returned (.bool b) ∧ (b = true → t.size ≤ 14 ∧ s.size ≤ 12) ∧ Below w.heap.size w w'
set_option maxHeartbeats 2000000 in
theorem few9_any (w : World) (t : Re) (cs : List Value) (s : ByteArray) (hin : t.In w cs) :
    Calls Tryd.prog 10 #[.agg cs.toArray, .string s] w (FewP9 t s w) := by
  obtain ⟨p, ad, m, c, rfl⟩ := Re.cells_shape hin
  have HI := hid hin
  have HB := hid ((Below.refl w.heap.size w).alloc (Nat.le_refl _) (.cells #[.int .i64 p.op, .int .u64 p.set.a, .int .u64 p.set.b, .int .u64 p.set.c, .int .u64 p.set.d, .int .i64 p.lo, .int .i64 p.hi, .int .i64 p.gr, .slice ad m c] 28))
  have q0 := (Row.new (w := w) (cs := [.int .i64 p.op, .int .u64 p.set.a, .int .u64 p.set.b, .int .u64 p.set.c, .int .u64 p.set.d, .int .i64 p.lo, .int .i64 p.hi, .int .i64 p.gr, .slice ad m c]) (T := 28) rfl).c9
  clear hin
  go_enter Tryd.func10, Tryd.ntmps10
  go_wp2_with fail
  refine (Small9_any _ t _ 14 (HI.out.below HB.out) (by omega)).mono ?_
  rintro e w1 ⟨b, rfl, hbt, hb⟩
  have HB1 := hid (HB.out.trans (hb.mono (by simp)))
  have HBT := hid hbt
  clear hb hbt q0
  cases b with
  | false =>
    go_wp2_with fail
    go_ret
    exact ⟨_, rfl, fun h => absurd h (by simp), HB1.out⟩
  | true =>
    by_cases hs : (s.size : Int) ≤ 12
    · go_wp2_with fail
      go_ret
      exact ⟨_, rfl, fun _ => ⟨HBT.out (by simp), by omega⟩, HB1.out⟩
    · go_wp2_with fail
      go_ret
      exact ⟨_, rfl, fun hb => absurd hb (by simp; omega), HB1.out⟩
end Go.Proofs.YtkinnfejgpnddaaDoor

/- The laws of layer 9: two equal lists of parses are found equal. -/
namespace Go.Proofs.YtkinnfejgpnddaaDoor
open Go.RowKit
attribute [local go_sem] gives givesUpon

set_option maxRecDepth 100000 in
set_option maxHeartbeats 8000000 in
theorem SameMatch9_any (w : World) (a a' : Option Addr) (c c' : Nat) (sp sp' : Spans) (h : SpQ w (.slice a sp.length c) sp) (h' : SpQ w (.slice a' sp'.length c') sp') (hl : sp.length ≤ 20) (hl' : sp'.length ≤ 20) :
    Calls Tryd.prog 19 #[.agg #[.slice a sp.length c], .agg #[.slice a' sp'.length c']] w fun e w' => e = .returned (.bool (decide (sp = sp'))) ∧ Below w.heap.size w w' := by
  have hb2 : Below w.heap.size w ((w.alloc (.cells #[.slice a sp.length c] 41)).alloc (.cells #[.slice a' sp'.length c'] 41)) := ((Below.refl _ _).alloc (Nat.le_refl _) _).alloc (by simp) _
  have q0 := (((Row.new (w := w) (cs := [.slice a sp.length c]) (T := 41) rfl).alloc (.cells #[.slice a' sp'.length c'] 41))).cell 0
  have q1 := (Row.new (w := (w.alloc (.cells #[.slice a sp.length c] 41))) (cs := [.slice a' sp'.length c']) (T := 41) rfl).cell 0
  have HSS := hid (SameSpansQ_any ((w.alloc (.cells #[.slice a sp.length c] 41)).alloc (.cells #[.slice a' sp'.length c'] 41)) _ _ sp sp' (h.below hb2) (h'.below hb2) (by omega) (by omega))
  have HB := hid hb2
  obtain ⟨d, hd⟩ : ∃ d, d = decide (sp = sp') := ⟨_, rfl⟩
  rw [← hd] at HSS
  have HD := hid hd
  clear h h' hb2 hd
  go_enter Tryd.func19, Tryd.ntmps19
  go_wp2_with fail
  refine HSS.out.mono ?_
  rintro e z ⟨rfl, hb⟩
  have HZ := hid (HB.out.trans (hb.mono HB.out.size))
  clear hb q0 q1
  go_wp2_with fail
  go_ret
  exact ⟨by rw [← HD.out]; rfl, HZ.out⟩
end Go.Proofs.YtkinnfejgpnddaaDoor

/- The laws of layer 9: trees of one byte, and nodes. -/
namespace Go.Proofs.YtkinnfejgpnddaaDoor
open Go.RowKit
attribute [local go_sem] gives givesUpon

def byteT (c : UInt8) : Re := .mk ⟨2, Cs.of [c], 0, 0, 0⟩ []
def nodeT (op gr : Int) (xs : List Re) : Re := .mk ⟨op, Cs.none, 0, 0, gr⟩ xs
/-- The cells of a tree of one byte. -/
abbrev byteC (c : UInt8) : List Value := [.int .i64 2, .int .u64 (Cs.of [c]).a, .int .u64 (Cs.of [c]).b, .int .u64 (Cs.of [c]).c, .int .u64 (Cs.of [c]).d, .int .i64 0, .int .i64 0, .int .i64 0, .slice none 0 0]
theorem byteT_in (c : UInt8) (w : World) : (byteT c).In w (byteC c) := by
  unfold byteT
  rw [Re.In]
  exact ⟨none, 0, rfl, ⟨by unfold I64; dsimp only; omega, Cs.of_wf _, by unfold I64; dsimp only; omega, by unfold I64; dsimp only; omega, by unfold I64; dsimp only; omega⟩, Nat.le_refl _, by unfold maxLen; omega, fun _ => rfl, by rw [Re.AllIn]; trivial⟩
set_option maxRecDepth 100000 in
set_option maxHeartbeats 4000000 in
theorem Byte_any (w : World) (c : UInt8) : Calls Tryd.prog 30 #[.int .u8 c.toNat] w fun e w' => e = .returned (.agg (byteC c).toArray) ∧ Below w.heap.size w w' := by
  have hstr : (strOfNums [(c.toNat : Int)]).data.toList = [c] := by
    simp [strOfNums]
  have hW1 : Below w.heap.size w ((w.alloc (.cells #[.int .i64 0, .int .u64 0, .int .u64 0, .int .u64 0, .int .u64 0, .int .i64 0, .int .i64 0, .int .i64 0, .slice none 0 0] 28)).alloc (.cells #[.int .u8 c.toNat] 5)) := ((Below.refl _ w).alloc (Nat.le_refl _) _).alloc (by simp) _
  have hconv := run_convert_bytes_arg (P := Tryd.prog) ((w.alloc (.cells #[.int .i64 0, .int .u64 0, .int .u64 0, .int .u64 0, .int .u64 0, .int .i64 0, .int .i64 0, .int .i64 0, .slice none 0 0] 28)).alloc (.cells #[.int .u8 c.toNat] 5)) 79 5 Tryd.underlying79 Tryd.underlying5 (w.heap.size + 1) 0 1 1 [(c.toNat : Int)] rfl (fun j hj => by
    obtain rfl : j = 0 := by omega
    exact (Row.new (w := w.alloc (.cells #[.int .i64 0, .int .u64 0, .int .u64 0, .int .u64 0, .int .u64 0, .int .i64 0, .int .i64 0, .int .i64 0, .slice none 0 0] 28)) (cs := [.int .u8 c.toNat]) (T := 5) (by simp)).cell 0) 9 Tryd.underlying9
  have hlen : (strOfNums [(c.toNat : Int)]).size = 1 := by show (strOfNums [(c.toNat : Int)]).data.size = 1; rw [← Array.length_toList, hstr]; rfl
  have HOF := hid (Of_any (strOfNums [(c.toNat : Int)]) ((w.alloc (.cells #[.int .i64 0, .int .u64 0, .int .u64 0, .int .u64 0, .int .u64 0, .int .i64 0, .int .i64 0, .int .i64 0, .slice none 0 0] 28)).alloc (.cells #[.int .u8 c.toNat] 5)) (by rw [hlen]; omega))
  rw [hstr] at HOF
  have HW1 := hid hW1
  have HRR := hid ((Row.new (w := w) (cs := [.int .i64 0, .int .u64 0, .int .u64 0, .int .u64 0, .int .u64 0, .int .i64 0, .int .i64 0, .int .i64 0, .slice none 0 0]) (T := 28) rfl).alloc (.cells #[.int .u8 c.toNat] 5))
  clear hstr hW1 hlen
  go_enter Tryd.func30, Tryd.ntmps30
  go_wp2_with fail
  refine HOF.out.mono ?_
  rintro e w1 ⟨rfl, hb⟩
  have hr := HRR.out.below hb (by simp; omega)
  have HR := hid hr
  have HB := hid (HW1.out.trans (hb.mono (by simp; omega)))
  have q := hr.c9
  clear hb hr HOF hconv
  generalize hcs : Cs.of [c] = cs at *
  have HCS := hid hcs
  clear hcs
  go_wp2_with fail
  refine bodyPost_ret (results_cell_row rfl _ _ w.heap.size _ _ _ _ rfl (show _ = some (Obj.cells (List.toArray _) _) from HR.out.set9 (.int .i64 2) (.int .u64 cs.a) (.int .u64 cs.b) (.int .u64 cs.c) (.int .u64 cs.d) (.int .i64 0) (.int .i64 0) (.int .i64 0) (.slice none 0 0)) Tryd.underlying28 rfl (by kernel_rfl)) rfl ?_
  have := HCS.out
  subst this
  exact ⟨rfl, below9 HB.out (Nat.le_refl _) _ _ _ _ _ _ _ _ _⟩
set_option maxHeartbeats 2000000 in
theorem Node_any (w : World) (op : Int) (a : Option Addr) (n c : Nat) : Calls Tryd.prog 24 #[.int .i64 op, .slice a n c] w fun e w' => e = .returned (.agg #[.int .i64 op, .int .u64 0, .int .u64 0, .int .u64 0, .int .u64 0, .int .i64 0, .int .i64 0, .int .i64 0, .slice a n c]) ∧ Below w.heap.size w w' := by
  have HRR := hid (Row.new (w := w) (cs := [.int .i64 0, .int .u64 0, .int .u64 0, .int .u64 0, .int .u64 0, .int .i64 0, .int .i64 0, .int .i64 0, .slice none 0 0]) (T := 28) rfl)
  have q := HRR.out.c9
  go_enter Tryd.func24, Tryd.ntmps24
  go_wp2_with fail
  refine bodyPost_ret (results_cell_row rfl _ _ w.heap.size _ _ _ _ rfl (show _ = some (Obj.cells (List.toArray _) _) from Row.new (cs := [.int .i64 op, .int .u64 0, .int .u64 0, .int .u64 0, .int .u64 0, .int .i64 0, .int .i64 0, .int .i64 0, .slice a n c]) rfl) Tryd.underlying28 rfl (by kernel_rfl)) rfl ?_
  exact ⟨rfl, (Below.refl _ w).alloc (Nat.le_refl _) _⟩

theorem node_in {w : World} {b : Nat} {T : TypeId} (op gr : Int) (hop : I64 op) (hgr : I64 gr) (L : List (Re × List Value)) (hr : Row w b (L.flatMap Prod.snd) T) (hn : L.length ≤ 100) (h : ∀ e, e ∈ L → e.1.In w e.2) :
    (nodeT op gr (L.map Prod.fst)).In w [.int .i64 op, .int .u64 0, .int .u64 0, .int .u64 0, .int .u64 0, .int .i64 0, .int .i64 0, .int .i64 gr, .slice (some ⟨b, 0, none⟩) L.length L.length] := by
  unfold nodeT
  rw [Re.In]
  refine ⟨some ⟨b, 0, none⟩, L.length, by rw [List.length_map]; rfl, ⟨hop, Cs.none_wf, by unfold I64; dsimp only; omega, by unfold I64; dsimp only; omega, hgr⟩, by rw [List.length_map]; exact Nat.le_refl _, by unfold maxLen; omega, (fun e => by cases e), ?_⟩
  refine AllIn_of w b L 0 fun i e hi => ⟨fun j v hj => ?_, h e (List.mem_of_getElem? hi)⟩
  have h9 : ∀ e, e ∈ L → e.2.length = 9 := fun e he => (h e he).nine
  have hj9 : j < 9 := by rw [← h9 e (List.mem_of_getElem? hi)]; exact (List.getElem?_eq_some_iff.1 hj).1
  rw [hr.cell, Nat.zero_add, flat9 L h9 i e j hi hj9]
  exact hj
end Go.Proofs.YtkinnfejgpnddaaDoor

/- The laws of layer 9: the first examples hold. -/
namespace Go.Proofs.YtkinnfejgpnddaaDoor
open Go.RowKit
attribute [local go_sem] gives givesUpon

def AT : Re := nodeT 3 0 [nodeT 6 1 [nodeT 4 0 [byteT 97, nodeT 3 0 [byteT 97, byteT 98]]], nodeT 6 2 [.mk ⟨5, Cs.none, 0, 1, 0⟩ [byteT 98]]]
def sABB : ByteArray := ⟨#[97, 98, 98]⟩
theorem at_parses : parsesR AT sABB 0 false = ([(3, [(0, 2), (2, 3)]), (2, [(0, 2), (2, 2)]), (2, [(0, 1), (1, 2)]), (1, [(0, 1), (1, 1)])], 0) := by kernel_rfl
theorem b_left : leftmostR (byteT 98) sABB 0 false = ([(1, 2)], true, 0) := by kernel_rfl
theorem rep1_in {w : World} {b : Nat} {T : TypeId} (L : List (Re × List Value)) (hr : Row w b (L.flatMap Prod.snd) T) (hn : L.length ≤ 100) (h : ∀ e, e ∈ L → e.1.In w e.2) :
    (Re.mk ⟨5, Cs.none, 0, 1, 0⟩ (L.map Prod.fst)).In w [.int .i64 5, .int .u64 0, .int .u64 0, .int .u64 0, .int .u64 0, .int .i64 0, .int .i64 1, .int .i64 0, .slice (some ⟨b, 0, none⟩) L.length L.length] := by
  rw [Re.In]
  refine ⟨some ⟨b, 0, none⟩, L.length, by rw [List.length_map]; rfl, ⟨by unfold I64; dsimp only; omega, Cs.none_wf, by unfold I64; dsimp only; omega, by unfold I64; dsimp only; omega, by unfold I64; dsimp only; omega⟩, by rw [List.length_map]; exact Nat.le_refl _, by unfold maxLen; omega, (fun e => by cases e), ?_⟩
  refine AllIn_of w b L 0 fun i e hi => ⟨fun j v hj => ?_, h e (List.mem_of_getElem? hi)⟩
  have h9 : ∀ e, e ∈ L → e.2.length = 9 := fun e he => (h e he).nine
  have hj9 : j < 9 := by rw [← h9 e (List.mem_of_getElem? hi)]; exact (List.getElem?_eq_some_iff.1 hj).1
  rw [hr.cell, Nat.zero_add, flat9 L h9 i e j hi hj9]
  exact hj
set_option maxRecDepth 100000 in
set_option maxHeartbeats 16000000 in
theorem awake9_any (w : World) (ht : Tabs9 w) : Calls Tryd.prog 11 #[] w fun e w' => e = .returned (.bool true) ∧ Below w.heap.size w w' := by
  have HT := hid ht
  clear ht
  have HBY := hid (fun (x : World) (c : UInt8) => Byte_any x c)
  go_enter Tryd.func11, Tryd.ntmps11
  go_wp2_with fail
  refine (HBY.out w 97).mono ?_
  rintro e w1 ⟨rfl, hb1⟩
  simp only [byteC]
  go_wp2_with fail
  refine (HBY.out w1 97).mono ?_
  rintro e w2 ⟨rfl, hb2⟩
  simp only [byteC]
  go_wp2_with fail
  refine (HBY.out w2 98).mono ?_
  rintro e w3 ⟨rfl, hb3⟩
  simp only [byteC]
  go_wp2_with fail
  refine (Node_any _ 3 _ _ _).mono ?_
  rintro e w4 ⟨rfl, hb4⟩
  go_wp2_with fail
  refine (Node_any _ 4 _ _ _).mono ?_
  rintro e w5 ⟨rfl, hb5⟩
  go_wp2_with fail
  have ha3 : Below w.heap.size w w3 := (hb1.trans (hb2.mono hb1.size)).trans (hb3.mono (Nat.le_trans hb1.size hb2.size))
  have ha4 : Below w.heap.size w w4 := (ha3.alloc ha3.size _).trans (hb4.mono (by have := ha3.size; simp; omega))
  have I4 : (nodeT 3 0 [byteT 97, byteT 98]).In w4 [.int .i64 3, .int .u64 0, .int .u64 0, .int .u64 0, .int .u64 0, .int .i64 0, .int .i64 0, .int .i64 0, .slice (some ⟨w3.heap.size, 0, none⟩) 2 2] := (node_in 3 0 (by unfold I64; omega) (by unfold I64; omega) [(byteT 97, byteC 97), (byteT 98, byteC 98)] (Row.new (w := w3) (T := 28) rfl) (by simp) (fun e he => by
    simp at he; rcases he with rfl | rfl
    · exact byteT_in 97 _
    · exact byteT_in 98 _)).below hb4
  have ha5 : Below w.heap.size w w5 := (ha4.alloc ha4.size _).trans (hb5.mono (by have := ha4.size; simp; omega))
  have I5 : (nodeT 4 0 [byteT 97, nodeT 3 0 [byteT 97, byteT 98]]).In w5 [.int .i64 4, .int .u64 0, .int .u64 0, .int .u64 0, .int .u64 0, .int .i64 0, .int .i64 0, .int .i64 0, .slice (some ⟨w4.heap.size, 0, none⟩) 2 2] := (node_in 4 0 (by unfold I64; omega) (by unfold I64; omega) [(byteT 97, byteC 97), (nodeT 3 0 [byteT 97, byteT 98], [.int .i64 3, .int .u64 0, .int .u64 0, .int .u64 0, .int .u64 0, .int .i64 0, .int .i64 0, .int .i64 0, .slice (some ⟨w3.heap.size, 0, none⟩) 2 2])] (Row.new (w := w4) (T := 28) rfl) (by simp) (fun e he => by
    simp at he; rcases he with rfl | rfl
    · exact byteT_in 97 _
    · exact I4.below ((Below.refl _ _).alloc (Nat.le_refl _) _))).below hb5
  have IG1 : (nodeT 6 1 [nodeT 4 0 [byteT 97, nodeT 3 0 [byteT 97, byteT 98]]]).In ((w5.alloc (.cells #[.int .i64 4, .int .u64 0, .int .u64 0, .int .u64 0, .int .u64 0, .int .i64 0, .int .i64 0, .int .i64 0, .slice (some ⟨w4.heap.size, 0, none⟩) 2 2] 28)).alloc (.cells #[.int .i64 6, .int .u64 0, .int .u64 0, .int .u64 0, .int .u64 0, .int .i64 0, .int .i64 0, .int .i64 1, .slice (some ⟨w5.heap.size, 0, none⟩) 1 1] 28)) [.int .i64 6, .int .u64 0, .int .u64 0, .int .u64 0, .int .u64 0, .int .i64 0, .int .i64 0, .int .i64 1, .slice (some ⟨w5.heap.size, 0, none⟩) 1 1] := (node_in 6 1 (by unfold I64; omega) (by unfold I64; omega) [(nodeT 4 0 [byteT 97, nodeT 3 0 [byteT 97, byteT 98]], [.int .i64 4, .int .u64 0, .int .u64 0, .int .u64 0, .int .u64 0, .int .i64 0, .int .i64 0, .int .i64 0, .slice (some ⟨w4.heap.size, 0, none⟩) 2 2])] (Row.new (w := w5) (T := 28) rfl) (by simp) (fun e he => by
    simp at he; subst he
    exact I5.below ((Below.refl _ _).alloc (Nat.le_refl _) _))).below ((Below.refl _ _).alloc (Nat.le_refl _) _)
  have hA5 : Below w.heap.size w ((w5.alloc (.cells #[.int .i64 4, .int .u64 0, .int .u64 0, .int .u64 0, .int .u64 0, .int .i64 0, .int .i64 0, .int .i64 0, .slice (some ⟨w4.heap.size, 0, none⟩) 2 2] 28)).alloc (.cells #[.int .i64 6, .int .u64 0, .int .u64 0, .int .u64 0, .int .u64 0, .int .i64 0, .int .i64 0, .int .i64 1, .slice (some ⟨w5.heap.size, 0, none⟩) 1 1] 28)) := (ha5.alloc ha5.size _).alloc (by have := ha5.size; simp; omega) _
  have R5 : Row ((w5.alloc (.cells #[.int .i64 4, .int .u64 0, .int .u64 0, .int .u64 0, .int .u64 0, .int .i64 0, .int .i64 0, .int .i64 0, .slice (some ⟨w4.heap.size, 0, none⟩) 2 2] 28)).alloc (.cells #[.int .i64 6, .int .u64 0, .int .u64 0, .int .u64 0, .int .u64 0, .int .i64 0, .int .i64 0, .int .i64 1, .slice (some ⟨w5.heap.size, 0, none⟩) 1 1] 28)) (w5.heap.size + 1) [.int .i64 6, .int .u64 0, .int .u64 0, .int .u64 0, .int .u64 0, .int .i64 0, .int .i64 0, .int .i64 1, .slice (some ⟨w5.heap.size, 0, none⟩) 1 1] 28 := Row.new (by simp)
  have H5 := hid (⟨IG1, hA5, R5⟩ : _ ∧ _ ∧ _)
  clear hb1 hb2 hb3 hb4 hb5 ha3 ha4 ha5 I4 I5 IG1 hA5 R5
  refine (HBY.out _ 98).mono ?_
  rintro e w6 ⟨rfl, hb6⟩
  have hB6 : Below ((w5.alloc (.cells #[.int .i64 4, .int .u64 0, .int .u64 0, .int .u64 0, .int .u64 0, .int .i64 0, .int .i64 0, .int .i64 0, .slice (some ⟨w4.heap.size, 0, none⟩) 2 2] 28)).alloc (.cells #[.int .i64 6, .int .u64 0, .int .u64 0, .int .u64 0, .int .u64 0, .int .i64 0, .int .i64 0, .int .i64 1, .slice (some ⟨w5.heap.size, 0, none⟩) 1 1] 28)).heap.size ((w5.alloc (.cells #[.int .i64 4, .int .u64 0, .int .u64 0, .int .u64 0, .int .u64 0, .int .i64 0, .int .i64 0, .int .i64 0, .slice (some ⟨w4.heap.size, 0, none⟩) 2 2] 28)).alloc (.cells #[.int .i64 6, .int .u64 0, .int .u64 0, .int .u64 0, .int .u64 0, .int .i64 0, .int .i64 0, .int .i64 1, .slice (some ⟨w5.heap.size, 0, none⟩) 1 1] 28)) (((w6.alloc (.cells #[.int .i64 2, .int .u64 (Cs.of [98]).a, .int .u64 (Cs.of [98]).b, .int .u64 (Cs.of [98]).c, .int .u64 (Cs.of [98]).d, .int .i64 0, .int .i64 0, .int .i64 0, .slice none 0 0] 28)).alloc (.cells #[.int .i64 5, .int .u64 0, .int .u64 0, .int .u64 0, .int .u64 0, .int .i64 0, .int .i64 1, .int .i64 0, .slice (some ⟨w6.heap.size, 0, none⟩) 1 1] 28)).alloc (.cells #[.int .i64 6, .int .u64 0, .int .u64 0, .int .u64 0, .int .u64 0, .int .i64 0, .int .i64 0, .int .i64 2, .slice (some ⟨w6.heap.size + 1, 0, none⟩) 1 1] 28)) := ((hb6.alloc hb6.size _).alloc (by have := hb6.size; simp at this ⊢; omega) _).alloc (by have := hb6.size; simp at this ⊢; omega) _
  have IR : (Re.mk ⟨5, Cs.none, 0, 1, 0⟩ [byteT 98]).In (w6.alloc (.cells #[.int .i64 2, .int .u64 (Cs.of [98]).a, .int .u64 (Cs.of [98]).b, .int .u64 (Cs.of [98]).c, .int .u64 (Cs.of [98]).d, .int .i64 0, .int .i64 0, .int .i64 0, .slice none 0 0] 28)) [.int .i64 5, .int .u64 0, .int .u64 0, .int .u64 0, .int .u64 0, .int .i64 0, .int .i64 1, .int .i64 0, .slice (some ⟨w6.heap.size, 0, none⟩) 1 1] := rep1_in [(byteT 98, byteC 98)] (Row.new (w := w6) (T := 28) rfl) (by simp) (fun e he => by simp at he; subst he; exact byteT_in 98 _)
  have IG2 : (nodeT 6 2 [.mk ⟨5, Cs.none, 0, 1, 0⟩ [byteT 98]]).In (((w6.alloc (.cells #[.int .i64 2, .int .u64 (Cs.of [98]).a, .int .u64 (Cs.of [98]).b, .int .u64 (Cs.of [98]).c, .int .u64 (Cs.of [98]).d, .int .i64 0, .int .i64 0, .int .i64 0, .slice none 0 0] 28)).alloc (.cells #[.int .i64 5, .int .u64 0, .int .u64 0, .int .u64 0, .int .u64 0, .int .i64 0, .int .i64 1, .int .i64 0, .slice (some ⟨w6.heap.size, 0, none⟩) 1 1] 28)).alloc (.cells #[.int .i64 6, .int .u64 0, .int .u64 0, .int .u64 0, .int .u64 0, .int .i64 0, .int .i64 0, .int .i64 2, .slice (some ⟨w6.heap.size + 1, 0, none⟩) 1 1] 28)) [.int .i64 6, .int .u64 0, .int .u64 0, .int .u64 0, .int .u64 0, .int .i64 0, .int .i64 0, .int .i64 2, .slice (some ⟨w6.heap.size + 1, 0, none⟩) 1 1] := (node_in (w := ((w6.alloc (.cells #[.int .i64 2, .int .u64 (Cs.of [98]).a, .int .u64 (Cs.of [98]).b, .int .u64 (Cs.of [98]).c, .int .u64 (Cs.of [98]).d, .int .i64 0, .int .i64 0, .int .i64 0, .slice none 0 0] 28)).alloc (.cells #[.int .i64 5, .int .u64 0, .int .u64 0, .int .u64 0, .int .u64 0, .int .i64 0, .int .i64 1, .int .i64 0, .slice (some ⟨w6.heap.size, 0, none⟩) 1 1] 28))) (b := w6.heap.size + 1) 6 2 (by unfold I64; omega) (by unfold I64; omega) [(.mk ⟨5, Cs.none, 0, 1, 0⟩ [byteT 98], [.int .i64 5, .int .u64 0, .int .u64 0, .int .u64 0, .int .u64 0, .int .i64 0, .int .i64 1, .int .i64 0, .slice (some ⟨w6.heap.size, 0, none⟩) 1 1])] (T := 28) (Row.new (by simp)) (by simp) (fun e he => by
    simp at he; subst he
    exact IR.below ((Below.refl _ _).alloc (Nat.le_refl _) _))).below ((Below.refl _ _).alloc (Nat.le_refl _) _)
  have R6 : Row (((w6.alloc (.cells #[.int .i64 2, .int .u64 (Cs.of [98]).a, .int .u64 (Cs.of [98]).b, .int .u64 (Cs.of [98]).c, .int .u64 (Cs.of [98]).d, .int .i64 0, .int .i64 0, .int .i64 0, .slice none 0 0] 28)).alloc (.cells #[.int .i64 5, .int .u64 0, .int .u64 0, .int .u64 0, .int .u64 0, .int .i64 0, .int .i64 1, .int .i64 0, .slice (some ⟨w6.heap.size, 0, none⟩) 1 1] 28)).alloc (.cells #[.int .i64 6, .int .u64 0, .int .u64 0, .int .u64 0, .int .u64 0, .int .i64 0, .int .i64 0, .int .i64 2, .slice (some ⟨w6.heap.size + 1, 0, none⟩) 1 1] 28)) (w6.heap.size + 2) [.int .i64 6, .int .u64 0, .int .u64 0, .int .u64 0, .int .u64 0, .int .i64 0, .int .i64 0, .int .i64 2, .slice (some ⟨w6.heap.size + 1, 0, none⟩) 1 1] 28 := Row.new (by simp)
  have IG1 := H5.out.1.below hB6
  have R5 := H5.out.2.2.below hB6 H5.out.2.2.lt
  have hA6 : Below w.heap.size w (((w6.alloc (.cells #[.int .i64 2, .int .u64 (Cs.of [98]).a, .int .u64 (Cs.of [98]).b, .int .u64 (Cs.of [98]).c, .int .u64 (Cs.of [98]).d, .int .i64 0, .int .i64 0, .int .i64 0, .slice none 0 0] 28)).alloc (.cells #[.int .i64 5, .int .u64 0, .int .u64 0, .int .u64 0, .int .u64 0, .int .i64 0, .int .i64 1, .int .i64 0, .slice (some ⟨w6.heap.size, 0, none⟩) 1 1] 28)).alloc (.cells #[.int .i64 6, .int .u64 0, .int .u64 0, .int .u64 0, .int .u64 0, .int .i64 0, .int .i64 0, .int .i64 2, .slice (some ⟨w6.heap.size + 1, 0, none⟩) 1 1] 28)) := H5.out.2.1.trans (hB6.mono H5.out.2.1.size)
  have hal : Below (((w6.alloc (.cells #[.int .i64 2, .int .u64 (Cs.of [98]).a, .int .u64 (Cs.of [98]).b, .int .u64 (Cs.of [98]).c, .int .u64 (Cs.of [98]).d, .int .i64 0, .int .i64 0, .int .i64 0, .slice none 0 0] 28)).alloc (.cells #[.int .i64 5, .int .u64 0, .int .u64 0, .int .u64 0, .int .u64 0, .int .i64 0, .int .i64 1, .int .i64 0, .slice (some ⟨w6.heap.size, 0, none⟩) 1 1] 28)).alloc (.cells #[.int .i64 6, .int .u64 0, .int .u64 0, .int .u64 0, .int .u64 0, .int .i64 0, .int .i64 0, .int .i64 2, .slice (some ⟨w6.heap.size + 1, 0, none⟩) 1 1] 28)).heap.size (((w6.alloc (.cells #[.int .i64 2, .int .u64 (Cs.of [98]).a, .int .u64 (Cs.of [98]).b, .int .u64 (Cs.of [98]).c, .int .u64 (Cs.of [98]).d, .int .i64 0, .int .i64 0, .int .i64 0, .slice none 0 0] 28)).alloc (.cells #[.int .i64 5, .int .u64 0, .int .u64 0, .int .u64 0, .int .u64 0, .int .i64 0, .int .i64 1, .int .i64 0, .slice (some ⟨w6.heap.size, 0, none⟩) 1 1] 28)).alloc (.cells #[.int .i64 6, .int .u64 0, .int .u64 0, .int .u64 0, .int .u64 0, .int .i64 0, .int .i64 0, .int .i64 2, .slice (some ⟨w6.heap.size + 1, 0, none⟩) 1 1] 28)) ((((w6.alloc (.cells #[.int .i64 2, .int .u64 (Cs.of [98]).a, .int .u64 (Cs.of [98]).b, .int .u64 (Cs.of [98]).c, .int .u64 (Cs.of [98]).d, .int .i64 0, .int .i64 0, .int .i64 0, .slice none 0 0] 28)).alloc (.cells #[.int .i64 5, .int .u64 0, .int .u64 0, .int .u64 0, .int .u64 0, .int .i64 0, .int .i64 1, .int .i64 0, .slice (some ⟨w6.heap.size, 0, none⟩) 1 1] 28)).alloc (.cells #[.int .i64 6, .int .u64 0, .int .u64 0, .int .u64 0, .int .u64 0, .int .i64 0, .int .i64 0, .int .i64 2, .slice (some ⟨w6.heap.size + 1, 0, none⟩) 1 1] 28)).alloc (.cells #[.int .i64 6, .int .u64 0, .int .u64 0, .int .u64 0, .int .u64 0, .int .i64 0, .int .i64 0, .int .i64 1, .slice (some ⟨w5.heap.size, 0, none⟩) 1 1, .int .i64 6, .int .u64 0, .int .u64 0, .int .u64 0, .int .u64 0, .int .i64 0, .int .i64 0, .int .i64 2, .slice (some ⟨w6.heap.size + 1, 0, none⟩) 1 1] 28)) := (Below.refl _ _).alloc (Nat.le_refl _) _
  have HAT : Hid (AT.In ((((w6.alloc (.cells #[.int .i64 2, .int .u64 (Cs.of [98]).a, .int .u64 (Cs.of [98]).b, .int .u64 (Cs.of [98]).c, .int .u64 (Cs.of [98]).d, .int .i64 0, .int .i64 0, .int .i64 0, .slice none 0 0] 28)).alloc (.cells #[.int .i64 5, .int .u64 0, .int .u64 0, .int .u64 0, .int .u64 0, .int .i64 0, .int .i64 1, .int .i64 0, .slice (some ⟨w6.heap.size, 0, none⟩) 1 1] 28)).alloc (.cells #[.int .i64 6, .int .u64 0, .int .u64 0, .int .u64 0, .int .u64 0, .int .i64 0, .int .i64 0, .int .i64 2, .slice (some ⟨w6.heap.size + 1, 0, none⟩) 1 1] 28)).alloc (.cells #[.int .i64 6, .int .u64 0, .int .u64 0, .int .u64 0, .int .u64 0, .int .i64 0, .int .i64 0, .int .i64 1, .slice (some ⟨w5.heap.size, 0, none⟩) 1 1, .int .i64 6, .int .u64 0, .int .u64 0, .int .u64 0, .int .u64 0, .int .i64 0, .int .i64 0, .int .i64 2, .slice (some ⟨w6.heap.size + 1, 0, none⟩) 1 1] 28)) [.int .i64 3, .int .u64 0, .int .u64 0, .int .u64 0, .int .u64 0, .int .i64 0, .int .i64 0, .int .i64 0, .slice (some ⟨w6.heap.size + 3, 0, none⟩) 2 2]) := node_in (b := w6.heap.size + 3) 3 0 (by unfold I64; omega) (by unfold I64; omega) [(nodeT 6 1 [nodeT 4 0 [byteT 97, nodeT 3 0 [byteT 97, byteT 98]]], [.int .i64 6, .int .u64 0, .int .u64 0, .int .u64 0, .int .u64 0, .int .i64 0, .int .i64 0, .int .i64 1, .slice (some ⟨w5.heap.size, 0, none⟩) 1 1]), (nodeT 6 2 [.mk ⟨5, Cs.none, 0, 1, 0⟩ [byteT 98]], [.int .i64 6, .int .u64 0, .int .u64 0, .int .u64 0, .int .u64 0, .int .i64 0, .int .i64 0, .int .i64 2, .slice (some ⟨w6.heap.size + 1, 0, none⟩) 1 1])] (T := 28) (Row.new (by simp)) (by simp) (fun e he => by
    simp at he; rcases he with rfl | rfl
    · exact IG1.below hal
    · exact IG2.below hal)
  have q0 := R5.c9
  have q1 := R6.c9
  have HA7 := hid (hA6.trans (hal.mono hA6.size))
  clear IR IG2 R6 IG1 R5 hA6 hal hB6 hb6 H5
  simp only [byteC]
  go_wp2_with fail
  refine (Node_any _ 3 _ _ _).mono ?_
  rintro e w7 ⟨rfl, hb7⟩
  have HA8 := hid (HA7.out.trans (hb7.mono HA7.out.size))
  have HPP := hid (PParses_any w7 AT _ sABB 0 false (HAT.out.below hb7) (by decide) (by decide) (HT.out.on HA8.out))
  rw [at_parses] at HPP
  clear q0 q1 hb7 HAT HA7
  go_wp2_with fail
  refine HPP.out.mono ?_
  rintro e w8 ⟨a, c, rfl, hb8, hps⟩
  have HPS := hid hps
  have HA9 := hid (HA8.out.trans (hb8.mono HA8.out.size))
  clear hb8 hps HPP HA8
  simp only [List.length_cons, List.length_nil, Nat.zero_add, Nat.reduceAdd]
  go_wp2_with fail
  refine (HBY.out w8 98).mono ?_
  rintro e w9 ⟨rfl, hb9⟩
  have HA10 := hid (HA9.out.trans (hb9.mono HA9.out.size))
  have HPS9 := hid (HPS.out.below hb9)
  have HLL := hid (PLeft_any w9 (byteT 98) _ sABB 0 false (byteT_in 98 w9) (by decide) (by decide) (HT.out.on HA10.out))
  rw [b_left] at HLL
  clear hb9 HPS HA9
  simp only [byteC]
  go_wp2_with fail
  refine HLL.out.mono ?_
  rintro e w10 ⟨a1, c1, rfl, hb10, hsq⟩
  dsimp only at hsq
  have hal : Below w10.heap.size w10 (w10.alloc (.cells #[.slice a1 1 c1] 41)) := (Below.refl _ _).alloc (Nat.le_refl _) _
  have HA11 := hid ((HA10.out.trans (hb10.mono HA10.out.size)).trans (hal.mono (HA10.out.trans (hb10.mono HA10.out.size)).size))
  have hpx := (HPS9.out.below hb10).below hal
  have hsx := hsq.below hal
  have qm := (Row.new (w := w10) (cs := [.slice a1 1 c1]) (T := 41) rfl).cell 0
  obtain ⟨b, c0, u1, u2, va, vc, hq, ev, -, -, -, p0, p1, hs0⟩ := hpx.get (k := 0) (by simp)
  simp only [List.getElem?_cons_zero, Option.some.injEq, Prod.mk.injEq] at hq
  obtain ⟨rfl, rfl⟩ := hq
  injection ev with e1 e2 e3
  subst e1; subst e3
  obtain ⟨b', c0', u1', u2', va1, vc1, hq', ev', -, -, -, p2, p3, hs1⟩ := hpx.get (k := 1) (by simp)
  simp only [List.getElem?_cons_succ, List.getElem?_cons_zero, Option.some.injEq, Prod.mk.injEq] at hq'
  obtain ⟨rfl, rfl⟩ := hq'
  injection ev' with e1 e2 e3
  injection e1 with e1
  injection e1 with e1
  subst e1
  obtain ⟨b2, c2, u12, u22, va2, vc2, hq2, ev2, -, -, -, p4, p5, hs2⟩ := hpx.get (k := 2) (by simp)
  simp only [List.getElem?_cons_succ, List.getElem?_cons_zero, Option.some.injEq, Prod.mk.injEq] at hq2
  obtain ⟨rfl, rfl⟩ := hq2
  injection ev2 with e1 e2 e3
  injection e1 with e1
  injection e1 with e1
  subst e1
  obtain ⟨b3, c3, u13, u23, va3, vc3, hq3, ev3, -, -, -, p6, p7, hs3⟩ := hpx.get (k := 3) (by simp)
  simp only [List.getElem?_cons_succ, List.getElem?_cons_zero, Option.some.injEq, Prod.mk.injEq] at hq3
  obtain ⟨rfl, rfl⟩ := hq3
  injection ev3 with e1 e2 e3
  injection e1 with e1
  injection e1 with e1
  subst e1
  obtain ⟨x1, x2, x3, h1 | ⟨s2b, more, rfl, r2⟩⟩ := hs2
  · cases h1
  obtain ⟨y1, y2, y3, h1 | ⟨s3b, more3, rfl, r3⟩⟩ := hsx
  · cases h1
  have g0 := r2.cell 0
  have g1 := r2.cell 1
  have g2 := r3.cell 0
  have g3 := r3.cell 1
  simp only [spc, List.cons_append, List.getElem?_cons_zero, List.getElem?_cons_succ] at g0 g1 g2 g3
  clear hs0 hs1 hs3 r2 r3 hpx hsq hal hb10 HPS9 HLL HA10
  simp only [Nat.reduceMul, Nat.reduceAdd, Nat.zero_mul, Nat.zero_add, Nat.one_mul] at p0 p1 p2 p3 p4 p5 p6 p7
  go_wp2_with fail
  go_ret
  exact ⟨rfl, HA11.out⟩
end Go.Proofs.YtkinnfejgpnddaaDoor

/- The laws of layer 9: RematchParses. -/
namespace Go.Proofs.YtkinnfejgpnddaaDoor
open Go.RowKit
attribute [local go_sem] gives givesUpon

/-- What a law leaves. -/
def LawPost (w : World) (e : Ending) (w' : World) : Prop := e = .returned (.bool true) ∧ Below w.heap.size w w'
/-- The parameters of a law, in memory. -/
def LawAt (w : World) (t : Re) (cs CXL : List Value) (x : World) : Prop := Row x w.heap.size cs 28 ∧ Row x (w.heap.size + 1) CXL 30 ∧ Below w.heap.size w x ∧ t.In x cs ∧ Tabs9 x
theorem LawAt.later {w : World} {t : Re} {cs CXL : List Value} {x y : World} (h : LawAt w t cs CXL x) (hb : Below x.heap.size x y) : LawAt w t cs CXL y :=
  ⟨h.1.below hb h.1.lt, h.2.1.below hb h.2.1.lt, h.2.2.1.trans (hb.mono h.2.2.1.size), h.2.2.2.1.below hb, h.2.2.2.2.on hb⟩
theorem parsesR_len {t : Re} {s : ByteArray} {at_ : Int} {lines : Bool} : (parsesR t s at_ lines).1.length ≤ 4096 := by
  have hsl : s.data.toList.length = s.size := by rw [Array.length_toList]; rfl
  unfold parsesR
  by_cases h : chk t s at_ ≠ 0
  · rw [if_pos h]; simp
  · rw [if_neg h]
    have h0 : chk t s at_ = 0 := Classical.byContradiction h
    obtain ⟨h1, h2, h3⟩ := chk_zero h0
    obtain ⟨ok, hg, -⟩ := Re.ok_err h1
    cases hp : parses s.data.toList lines t at_.toNat (unsetAll t.groups) with
    | none => simp
    | some l => exact parses_len ok (by rw [hsl]; omega) (by rw [hsl]; exact unsetAll_ok _ _) hp
theorem parsesR_sp {t : Re} {s : ByteArray} {at_ : Int} {lines : Bool} : ∀ q, q ∈ (parsesR t s at_ lines).1 → q.2.length ≤ 9 := fun q hq => by
  have hok := (parsesR_ok (t := t) (s := s) (at_ := at_) (lines := lines))
  have h1 := (hok.1 q hq).2.2.1
  have h2 := (Re.ok_err (chk_zero (hok.2 (fun e => by rw [e] at hq; cases hq)).1).1).2.1
  omega
end Go.Proofs.YtkinnfejgpnddaaDoor

/- The laws of layer 9: RematchFinds. -/
namespace Go.Proofs.YtkinnfejgpnddaaDoor
open Go.RowKit
attribute [local go_sem] gives givesUpon

theorem atR_len {t : Re} {s : ByteArray} {at_ : Int} {lines : Bool} : (atR (parsesR t s at_ lines) at_).1.length ≤ 20 := by
  have h := parsesR_sp (t := t) (s := s) (at_ := at_) (lines := lines)
  unfold atR
  cases hl : (parsesR t s at_ lines).1 with
  | nil => simp
  | cons q l =>
    have := h q (by rw [hl]; simp)
    simp; omega
theorem leftR_len {t : Re} {s : ByteArray} {lines : Bool} : ∀ d i : Nat, (leftR t s lines d i).1.length ≤ 20
  | 0, i => by simp [leftR]
  | d + 1, i => by
    rw [leftR]
    split
    · exact atR_len
    · exact leftR_len d (i + 1)
theorem leftmostR_len {t : Re} {s : ByteArray} {at_ : Int} {lines : Bool} : (leftmostR t s at_ lines).1.length ≤ 20 := by
  unfold leftmostR
  split
  · simp
  · exact leftR_len _ _
end Go.Proofs.YtkinnfejgpnddaaDoor
