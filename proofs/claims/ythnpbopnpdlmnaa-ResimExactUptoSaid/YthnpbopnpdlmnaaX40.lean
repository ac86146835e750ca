/- The reference of layer 9: At and Leftmost. -/
import Derived.Test.YthnpbopnpdlmnaaX39
namespace Go.Proofs.Ythnpbopnpdlmnaa
open Go.RowKit
attribute [local go_sem] gives givesUpon

set_option maxRecDepth 100000 in
set_option maxHeartbeats 16000000 in
theorem RAt9_any (w : World) (t : Re) (cs : List Value) (s : ByteArray) (at_ : Int) (lines : Bool) (hin : t.In w cs) (hsz : t.size ≤ 20) (hs : s.size ≤ 1000000) :
    Calls Try.prog 16 #[.agg cs.toArray, .string s, .int .i64 at_, .bool lines] w (MatchPost w (atR (parsesR t s at_ lines) at_)) := by
  cases t with
  | mk p xs =>
  have hin2 := hin
  rw [Re.In] at hin2
  obtain ⟨ad, cap, rfl, -⟩ := hin2
  simp only [Pay.cells] at hin ⊢
  have hb2 : Below w.heap.size w ((w.alloc (.cells #[.int .i64 p.op, .int .u64 p.set.a, .int .u64 p.set.b, .int .u64 p.set.c, .int .u64 p.set.d, .int .i64 p.lo, .int .i64 p.hi, .int .i64 p.gr, .slice ad xs.length cap] 28)).alloc (.cells #[.slice none 0 0] 43)) := ((Below.refl _ _).alloc (Nat.le_refl _) _).alloc (by simp) _
  have R0 : Row ((w.alloc (.cells #[.int .i64 p.op, .int .u64 p.set.a, .int .u64 p.set.b, .int .u64 p.set.c, .int .u64 p.set.d, .int .i64 p.lo, .int .i64 p.hi, .int .i64 p.gr, .slice ad xs.length cap] 28)).alloc (.cells #[.slice none 0 0] 43)) w.heap.size [.int .i64 p.op, .int .u64 p.set.a, .int .u64 p.set.b, .int .u64 p.set.c, .int .u64 p.set.d, .int .i64 p.lo, .int .i64 p.hi, .int .i64 p.gr, .slice ad xs.length cap] 28 := (Row.new rfl).alloc _
  have R1 : Row ((w.alloc (.cells #[.int .i64 p.op, .int .u64 p.set.a, .int .u64 p.set.b, .int .u64 p.set.c, .int .u64 p.set.d, .int .i64 p.lo, .int .i64 p.hi, .int .i64 p.gr, .slice ad xs.length cap] 28)).alloc (.cells #[.slice none 0 0] 43)) (w.heap.size + 1) [.slice none 0 0] 43 := Row.new (by simp)
  have HR := hid (⟨R0, R1⟩ : _ ∧ _)
  have HB2 := hid hb2
  have q0 := R0.c9
  have hok := (parsesR_ok (t := .mk p xs) (s := s) (at_ := at_) (lines := lines))
  have hp := RParses_any ((w.alloc (.cells #[.int .i64 p.op, .int .u64 p.set.a, .int .u64 p.set.b, .int .u64 p.set.c, .int .u64 p.set.d, .int .i64 p.lo, .int .i64 p.hi, .int .i64 p.gr, .slice ad xs.length cap] 28)).alloc (.cells #[.slice none 0 0] 43)) (.mk p xs) [.int .i64 p.op, .int .u64 p.set.a, .int .u64 p.set.b, .int .u64 p.set.c, .int .u64 p.set.d, .int .i64 p.lo, .int .i64 p.hi, .int .i64 p.gr, .slice ad xs.length cap] s at_ lines (hin.below hb2) hsz hs
  obtain ⟨⟨l, x⟩, hr⟩ : ∃ r, r = parsesR (.mk p xs) s at_ lines := ⟨_, rfl⟩
  rw [← hr] at hp hok ⊢
  have HP := hid hp
  have HOK := hid hok
  clear hin hb2 R0 R1 hp hok hr
  go_enter Try.func16, Try.ntmps16
  go_wp2_with fail
  refine HP.out.mono ?_
  rintro e z ⟨a, c, rfl, hb, hps⟩
  have HZ := hid (⟨⟨HR.out.1.below hb HR.out.1.lt, HR.out.2.below hb HR.out.2.lt⟩, HB2.out.trans (hb.mono HB2.out.size), hps⟩ : (Row z _ _ _ ∧ Row z _ _ _) ∧ Below w.heap.size w z ∧ PsQ _ z _ _)
  clear hb hps q0 HP HB2 HR
  have q1 := HZ.out.1.2.cell 0
  have q2 := HZ.out.1.2.free 0
  dsimp only
  cases l with
  | nil =>
    have HA : Hid (MatchPost w (atR (([] : List Parse), x) at_) (.returned (.tuple #[.agg #[.slice none 0 0], .bool false, .int .i64 x])) (z.setCell ⟨w.heap.size + 1, 0, none⟩ (.slice none 0 0))) :=
      ⟨none, 0, rfl, HZ.out.2.1.setCell (by simp) _, ⟨none, 0, rfl, .inl rfl⟩⟩
    by_cases hx : x = 0
    · subst hx
      go_wp2_with fail
      refine bodyPost_ret (results_cell_tmp2 rfl _ _ (w.heap.size + 1) _ _ _ _ rfl (show _ = some (Obj.cells (List.toArray _) _) from HZ.out.1.2.set 0 (.slice none 0 0)) Try.underlying43 rfl (by kernel_rfl)) rfl ?_
      exact HA.out
    · go_wp2_with fail
      refine bodyPost_ret (results_cell_tmp2 rfl _ _ (w.heap.size + 1) _ _ _ _ rfl (show _ = some (Obj.cells (List.toArray _) _) from HZ.out.1.2.set 0 (.slice none 0 0)) Try.underlying43 rfl (by kernel_rfl)) rfl ?_
      exact HA.out
  | cons q l =>
    have hx := (HOK.out.2 (by simp)).2
    subst hx
    obtain ⟨b, c', q1', q2', sa, sc, hq, ev, hbz, hpb, -, p0, p1, hsq⟩ := HZ.out.2.2.get (k := 0) (by simp)
    have hq' := Option.some.inj hq
    subst hq'
    injection ev with e1 e2 e3
    subst e1; subst e3
    clear e2 hq
    obtain ⟨n, hn⟩ : ∃ n, n = ((q1', q2') :: l).length := ⟨_, rfl⟩
    have hpos : 0 < n := by rw [hn]; simp
    have hposI : (0 : Int) < (n : Int) := by omega
    have hnz : ((n : Int) == 0) = false := by simp; omega
    have hb4 : Below z.heap.size z ((z.alloc (.cells #[.int .i64 at_, .int .i64 q1'] 47)).alloc (.cells #[.slice (some ⟨z.heap.size, 0, none⟩) 1 1] 43)) := ((Below.refl _ _).alloc (Nat.le_refl _) _).alloc (by simp) _
    have S0 : Row ((z.alloc (.cells #[.int .i64 at_, .int .i64 q1'] 47)).alloc (.cells #[.slice (some ⟨z.heap.size, 0, none⟩) 1 1] 43)) z.heap.size [.int .i64 at_, .int .i64 q1'] 47 := (Row.new rfl).alloc _
    have S1 : Row ((z.alloc (.cells #[.int .i64 at_, .int .i64 q1'] 47)).alloc (.cells #[.slice (some ⟨z.heap.size, 0, none⟩) 1 1] 43)) (z.heap.size + 1) [.slice (some ⟨z.heap.size, 0, none⟩) 1 1] 43 := Row.new (by simp)
    have HS := hid (⟨S0, S1⟩ : _ ∧ _)
    have HB4 := hid hb4
    have HSQ := hid hsq
    have HC0 := hid (⟨p0, p1, hbz⟩ : _ ∧ _ ∧ _)
    have hl9 : q2'.length ≤ 100 := by
      have h1 := (HOK.out.1 (q1', q2') (by simp)).2.2.1
      have h2 := (Re.ok_err (chk_zero (HOK.out.2 (by simp)).1).1).2.1
      dsimp only at h1
      omega
    have HC := hid (fun (y : World) (hy : Grow (((z.alloc (.cells #[.int .i64 at_, .int .i64 q1'] 47)).alloc (.cells #[.slice (some ⟨z.heap.size, 0, none⟩) 1 1] 43))).drew y) => (⟨(HS.out.2.grow hy).cell 0, ((grow_below hy).cell (p := ⟨b, 0 * 2, none⟩) (Nat.lt_of_lt_of_le HC0.out.2.2 HB4.out.size)).trans (((HB4.out.cell (p := ⟨b, 0 * 2, none⟩) HC0.out.2.2)).trans HC0.out.1), ((grow_below hy).cell (p := ⟨b, 0 * 2 + 1, none⟩) (Nat.lt_of_lt_of_le HC0.out.2.2 HB4.out.size)).trans ((HB4.out.cell (p := ⟨b, 0 * 2 + 1, none⟩) HC0.out.2.2).trans HC0.out.2.1)⟩ : _ ∧ _ ∧ _))
    have HSP := hid (fun (y : World) (hy : Grow (((z.alloc (.cells #[.int .i64 at_, .int .i64 q1'] 47)).alloc (.cells #[.slice (some ⟨z.heap.size, 0, none⟩) 1 1] 43))).drew y) => (⟨HS.out.1.grow hy, (HSQ.out.below HB4.out).below (grow_below hy)⟩ : _ ∧ _))
    have HR2 := hid (fun (y : World) (hy : Grow (((z.alloc (.cells #[.int .i64 at_, .int .i64 q1'] 47)).alloc (.cells #[.slice (some ⟨z.heap.size, 0, none⟩) 1 1] 43))).drew y) => (⟨HZ.out.1.2.below (HB4.out.trans ((grow_below hy).mono HB4.out.size)) HZ.out.1.2.lt, HS.out.2.grow hy, HZ.out.2.1.trans ((HB4.out.trans ((grow_below hy).mono HB4.out.size)).mono HZ.out.2.1.size)⟩ : Row y (w.heap.size + 1) _ _ ∧ Row y (z.heap.size + 1) _ _ ∧ Below w.heap.size w y))
    have hwz := HZ.out.1.2.lt
    have hlw : w.heap.size + 1 < z.heap.size := hwz
    rw [← hn]
    simp only [Nat.zero_mul, Nat.zero_add] at p0 p1 HC
    clear hb4 S0 S1 hsq hbz hn hwz hpb
    go_upto_region 5 with fail
    refine wp_region_inv 8 (Grow) (by kernel_rfl) (by kernel_rfl) (Grow.refl) (fun _ _ _ => Grow.trans) ?_
    simp only [fill, dstOf, Act.put, List.take_succ_cons, List.take_zero, List.getElem?_toArray, List.getElem?_cons_zero, List.getElem?_cons_succ, Option.bind_some, List.setIfInBounds_toArray, List.set_cons_zero, List.set_cons_succ]
    refine Plan.det 1 rfl (Grow.refl) ?_
    apply Exists.intro
    refine ⟨fun vs x hR hF K hK => ?_, ?_⟩
    · clear hF
      go_simp
      exact hK _ _ (Grow.refl _) rfl
    refine Plan.det 2 rfl (Grow.refl) ?_
    apply Exists.intro
    refine ⟨fun vs x hR hF K hK => ?_, ?_⟩
    · have f0 := hF 0 _ _ rfl rfl; have hc := HC.out x hR; clear hF
      go_simp
      exact hK _ _ (Grow.refl _) rfl
    refine Plan.det 3 rfl (Grow.refl) ?_
    apply Exists.intro
    refine ⟨fun vs x hR hF K hK => ?_, ?_⟩
    · clear hF
      go_simp
      exact hK _ _ (Grow.refl _) rfl
    refine Plan.det 4 rfl (Grow.refl) ?_
    apply Exists.intro
    refine ⟨fun vs x hR hF K hK => ?_, ?_⟩
    · have f2 := hF 0 _ _ rfl rfl; clear hF
      go_simp
      exact hK _ _ (Grow.refl _) rfl
    refine Plan.det 5 rfl (Grow.refl) ?_
    apply Exists.intro
    refine ⟨fun vs x hR hF K hK => ?_, ?_⟩
    · have f3 := hF 0 _ _ rfl rfl; clear hF
      go_simp
      exact hK _ _ (Grow.refl _) rfl
    refine Plan.det 6 rfl (Grow.refl) ?_
    apply Exists.intro
    refine ⟨fun vs x hR hF K hK => ?_, ?_⟩
    · have f4 := hF 0 _ _ rfl rfl; have hc := HC.out x hR; clear hF
      go_simp
      exact hK _ _ (Grow.refl _) rfl
    refine Plan.rel 7 rfl (Grow.refl) (fun v y => ∃ (a2 : Option Addr) (c2 : Nat), v = .slice a2 (q2'.length + 1) c2 ∧ SpQ y (.slice a2 (q2'.length + 1) c2) ((at_, (q1' : Int)) :: q2')) (fun v y z hR ⟨a1, c1, h1, h2⟩ => ⟨a1, c1, h1, h2.below hR⟩) (fun vs x hR hF K hK => ?_) ?_
    · have f1 := hF 4 _ _ rfl rfl; have f5 := hF 0 _ _ rfl rfl
      refine gives_append_head _ _ rfl _ at_ q1' q2' _ f1 (HSP.out x hR).1 f5 (HSP.out x hR).2 hl9 ?_
      intro a2 c2 w9 hb9 hs9
      exact hK _ _ hb9 ⟨a2, c2, rfl, hs9⟩
    refine Plan.det 8 rfl (Grow.refl) ?_
    apply Exists.intro
    refine ⟨fun vs x hR hF K hK => ?_, ?_⟩
    · have f0 := hF 6 _ _ rfl rfl; have f1 := hF 5 _ _ rfl rfl; have f2 := hF 4 _ _ rfl rfl; have f3 := hF 3 _ _ rfl rfl; have f4 := hF 2 _ _ rfl rfl; have f5 := hF 1 _ _ rfl rfl; have f6 := hF 0 _ _ rfl rfl; clear hF
      go_simp
      exact hK _ _ (Grow.refl _) rfl
    refine Plan.nil (fun vs x hR hF => ?_)
    have f0 := hF 7 _ _ rfl; have f1 := hF 6 _ _ rfl; have f2 := hF 5 _ _ rfl; have f3 := hF 4 _ _ rfl; have f4 := hF 3 _ _ rfl; have f5 := hF 2 _ _ rfl; have f6 := hF 1 _ _ rfl; have f7 := hF 0 _ _ rfl
    clear hF
    simp only [f0, f1, f2, f3, f4, f5, f7]
    clear f0 f1 f2 f3 f4 f5 f7
    simp only [List.drop_succ_cons, List.drop_zero]
    obtain ⟨a2, c2, ev6, hs6⟩ := f6
    simp only [ev6]
    clear ev6
    obtain ⟨T0, T1, hb9⟩ := HR2.out x hR
    have hlx : w.heap.size + 1 < x.heap.size := T0.lt
    have hne : w.heap.size + 1 ≠ z.heap.size + 1 := by omega
    have T2 : Row (x.setCell ⟨z.heap.size + 1, 0, none⟩ (.slice a2 (q2'.length + 1) c2)) (w.heap.size + 1) [.slice none 0 0] 43 := T0.other hne _ _
    have T3 : Row (x.setCell ⟨z.heap.size + 1, 0, none⟩ (.slice a2 (q2'.length + 1) c2)) (z.heap.size + 1) [.slice a2 (q2'.length + 1) c2] 43 := T1.set 0 _
    have HT := hid (⟨T2, T3⟩ : _ ∧ _)
    have HFIN : Hid (MatchPost w (atR ((q1', q2') :: l, (0 : Int)) at_) (.returned (.tuple #[.agg #[.slice a2 (q2'.length + 1) c2], .bool true, .int .i64 0])) ((x.setCell ⟨z.heap.size + 1, 0, none⟩ (.slice a2 (q2'.length + 1) c2)).setCell ⟨w.heap.size + 1, 0, none⟩ (.slice a2 (q2'.length + 1) c2))) := by
      refine ⟨a2, c2, rfl, ((hb9.setCell (by simp; omega) _).setCell (by simp) _), ?_⟩
      have h8 : SpQ (x.setCell ⟨z.heap.size + 1, 0, none⟩ (.slice a2 (q2'.length + 1) c2)) (.slice a2 (q2'.length + 1) c2) ((at_, (q1' : Int)) :: q2') := hs6.of fun b8 cs8 hr8 => hr8.other (fun e => by subst e; exact absurd (hr8.typed T1) (by decide)) _ _
      exact h8.of fun b8 cs8 hr8 => hr8.other (fun e => by subst e; exact absurd (hr8.typed T2) (by decide)) _ _
    have p2 := T1.cell 0
    have p3 := T1.free 0
    have p4 := T0.free 0
    clear T0 T1 T2 T3 hs6 hb9 HC HSP HR2 HS HC0 hR p0 p1 q1 q2 hne
    go_upto_region 6 with fail
    clear p2 p3 p4
    generalize x.setCell ⟨z.heap.size + 1, 0, none⟩ (.slice a2 (q2'.length + 1) c2) = y at HT HFIN ⊢
    have p2 := HT.out.2.cell 0
    have p4 := HT.out.1.free 0
    have p5 := HT.out.1.cell 0
    go_wp2_with fail
    refine bodyPost_ret (results_cell_tmp2 rfl _ _ (w.heap.size + 1) _ _ _ _ rfl (show _ = some (Obj.cells (List.toArray _) _) from HT.out.1.set 0 (.slice a2 (q2'.length + 1) c2)) Try.underlying43 rfl (by kernel_rfl)) rfl ?_
    exact HFIN.out
theorem leftR_hit {t : Re} {s : ByteArray} {lines : Bool} {i : Nat} {r : Spans × Bool × Int} (hi : i ≤ s.size) (hr : r = atR (parsesR t s i lines) i) (h : r.2.1 = true ∨ r.2.2 ≠ 0) : leftR t s lines (s.size + 1 - i) i = r := by
  obtain ⟨d, hd⟩ : ∃ d, s.size + 1 - i = d + 1 := ⟨s.size - i, by omega⟩
  rw [hd, leftR, ← hr, if_pos h]
theorem leftR_miss {t : Re} {s : ByteArray} {lines : Bool} {i : Nat} {r : Spans × Bool × Int} (hi : i ≤ s.size) (hr : r = atR (parsesR t s i lines) i) (h : r.2.1 = false ∧ r.2.2 = 0) : leftR t s lines (s.size + 1 - i) i = leftR t s lines (s.size + 1 - (i + 1)) (i + 1) := by
  obtain ⟨d, hd⟩ : ∃ d, s.size + 1 - i = d + 1 := ⟨s.size - i, by omega⟩
  rw [hd, leftR, ← hr, if_neg (by rw [h.1, h.2]; simp), show s.size + 1 - (i + 1) = d by omega]
def LefL (t : Re) (s : ByteArray) (lines : Bool) (w : World) (BXL : List Value) (f i : Nat) (wr : World) : Prop :=
  (Row wr w.heap.size BXL 28 ∧ Row wr (w.heap.size + 1) [.slice none 0 0] 43) ∧ Below w.heap.size w wr ∧ leftR t s lines (s.size + 1 - f) f = leftR t s lines (s.size + 1 - i) i
set_option maxRecDepth 100000 in
set_option maxHeartbeats 16000000 in
theorem RLeft_any (w : World) (t : Re) (cs : List Value) (s : ByteArray) (at_ : Int) (lines : Bool) (hin : t.In w cs) (hsz : t.size ≤ 20) (hs : s.size ≤ 1000000) :
    Calls Try.prog 19 #[.agg cs.toArray, .string s, .int .i64 at_, .bool lines] w (MatchPost w (leftmostR t s at_ lines)) := by
  cases t with
  | mk p xs =>
  have hin2 := hin
  rw [Re.In] at hin2
  obtain ⟨ad, cap, rfl, -⟩ := hin2
  simp only [Pay.cells] at hin ⊢
  have hb2 : Below w.heap.size w ((w.alloc (.cells #[.int .i64 p.op, .int .u64 p.set.a, .int .u64 p.set.b, .int .u64 p.set.c, .int .u64 p.set.d, .int .i64 p.lo, .int .i64 p.hi, .int .i64 p.gr, .slice ad xs.length cap] 28)).alloc (.cells #[.slice none 0 0] 43)) := ((Below.refl _ _).alloc (Nat.le_refl _) _).alloc (by simp) _
  have R0 : Row ((w.alloc (.cells #[.int .i64 p.op, .int .u64 p.set.a, .int .u64 p.set.b, .int .u64 p.set.c, .int .u64 p.set.d, .int .i64 p.lo, .int .i64 p.hi, .int .i64 p.gr, .slice ad xs.length cap] 28)).alloc (.cells #[.slice none 0 0] 43)) w.heap.size [.int .i64 p.op, .int .u64 p.set.a, .int .u64 p.set.b, .int .u64 p.set.c, .int .u64 p.set.d, .int .i64 p.lo, .int .i64 p.hi, .int .i64 p.gr, .slice ad xs.length cap] 28 := (Row.new rfl).alloc _
  have R1 : Row ((w.alloc (.cells #[.int .i64 p.op, .int .u64 p.set.a, .int .u64 p.set.b, .int .u64 p.set.c, .int .u64 p.set.d, .int .i64 p.lo, .int .i64 p.hi, .int .i64 p.gr, .slice ad xs.length cap] 28)).alloc (.cells #[.slice none 0 0] 43)) (w.heap.size + 1) [.slice none 0 0] 43 := Row.new (by simp)
  have HR := hid (⟨R0, R1⟩ : _ ∧ _)
  have HB2 := hid hb2
  have q0 := R0.c9
  have HCK := hid (CheckRef_any (.mk p xs) ((w.alloc (.cells #[.int .i64 p.op, .int .u64 p.set.a, .int .u64 p.set.b, .int .u64 p.set.c, .int .u64 p.set.d, .int .i64 p.lo, .int .i64 p.hi, .int .i64 p.gr, .slice ad xs.length cap] 28)).alloc (.cells #[.slice none 0 0] 43)) [.int .i64 p.op, .int .u64 p.set.a, .int .u64 p.set.b, .int .u64 p.set.c, .int .u64 p.set.d, .int .i64 p.lo, .int .i64 p.hi, .int .i64 p.gr, .slice ad xs.length cap] (hin.below hb2) (by omega))
  have HIN := hid hin
  clear hin hb2 R0 R1
  go_enter Try.func19, Try.ntmps19
  go_wp2_with fail
  refine HCK.out.mono ?_
  rintro e z ⟨rfl, hb⟩
  have HZ := hid (⟨⟨HR.out.1.below hb HR.out.1.lt, HR.out.2.below hb HR.out.2.lt⟩, HB2.out.trans (hb.mono HB2.out.size)⟩ : (Row z _ _ _ ∧ Row z _ _ _) ∧ Below w.heap.size w z)
  clear hb q0 HCK HB2 HR
  have q0 := HZ.out.1.1.c9
  have q1 := HZ.out.1.2.cell 0
  have q2 := HZ.out.1.2.free 0
  obtain ⟨er, her⟩ : ∃ er, er = (Re.mk p xs).err := ⟨_, rfl⟩
  have HER := hid her
  rw [← her]
  clear her
  by_cases he : er = 0
  · subst he
    by_cases hr : at_ < 0 ∨ (s.size : Int) < at_
    · have hc : chk (.mk p xs) s at_ = 2 := by unfold chk; rw [if_neg (by rw [← HER.out]; simp), if_pos hr]
      have HA : Hid (MatchPost w (leftmostR (.mk p xs) s at_ lines) (.returned (.tuple #[.agg #[.slice none 0 0], .bool false, .int .i64 2])) (z.setCell ⟨w.heap.size + 1, 0, none⟩ (.slice none 0 0))) := by
        have : leftmostR (.mk p xs) s at_ lines = ([], false, 2) := by unfold leftmostR; rw [hc]; rfl
        rw [this]
        exact ⟨none, 0, rfl, HZ.out.2.setCell (by simp) _, ⟨none, 0, rfl, .inl rfl⟩⟩
      clear hc HER
      have hr2 : at_ < 0 ∨ (¬ at_ < 0 ∧ (s.size : Int) < at_) := by omega
      clear hr
      rcases hr2 with hr | ⟨hr1, hr⟩
      all_goals
        go_wp2_with fail
        refine bodyPost_ret (results_cell_tmp2 rfl _ _ (w.heap.size + 1) _ _ _ _ rfl (show _ = some (Obj.cells (List.toArray _) _) from HZ.out.1.2.set 0 (.slice none 0 0)) Try.underlying43 rfl (by kernel_rfl)) rfl ?_
        exact HA.out
    · have hc : chk (.mk p xs) s at_ = 0 := by unfold chk; rw [if_neg (by rw [← HER.out]; simp), if_neg hr]
      obtain ⟨f, rfl⟩ : ∃ f : Nat, at_ = f := ⟨at_.toNat, by omega⟩
      have hf : f ≤ s.size := by omega
      have hfs : ¬ (s.size : Int) < (f : Int) := by omega
      have hf0 : ¬ (f : Int) < 0 := by omega
      have HLM : Hid (leftmostR (.mk p xs) s f lines = leftR (.mk p xs) s lines (s.size + 1 - f) f) := by show _ = _; unfold leftmostR; rw [if_neg (by simp [hc])]; rfl
      have HST : Hid (LefL (.mk p xs) s lines w [.int .i64 p.op, .int .u64 p.set.a, .int .u64 p.set.b, .int .u64 p.set.c, .int .u64 p.set.d, .int .i64 p.lo, .int .i64 p.hi, .int .i64 p.gr, .slice ad xs.length cap] f f z) := ⟨HZ.out.1, HZ.out.2, rfl⟩
      have hzlt := HZ.out.1.2.lt
      clear hc hr HER HZ q0 q1 q2
      go_wp2_with fail
      go_loopw [12] (fun v wr => ∃ i : Nat, v = .int .i64 i ∧ f ≤ i ∧ i ≤ s.size + 1 ∧ Hid (LefL (.mk p xs) s lines w [.int .i64 p.op, .int .u64 p.set.a, .int .u64 p.set.b, .int .u64 p.set.c, .int .u64 p.set.d, .int .i64 p.lo, .int .i64 p.hi, .int .i64 p.gr, .slice ad xs.length cap] f i wr)) (fun v _ => s.size + 1 - (intOf v).toNat)
      case atStart => exact ⟨f, rfl, Nat.le_refl _, by omega, HST.out⟩
      case round =>
        obtain ⟨i, rfl, hfi, his, HX⟩ := hrel
        have q0 := HX.out.1.1.c9
        have q1 := HX.out.1.2.cell 0
        have q2 := HX.out.1.2.free 0
        by_cases hle : i ≤ s.size
        · have hleI : (i : Int) ≤ (s.size : Int) := by omega
          have hwi : IntKind.i64.wrap ((i : Int) + 1) = (i : Int) + 1 := by rw [IntKind.wrap_i64]; omega
          have ha := RAt9_any wr (.mk p xs) [.int .i64 p.op, .int .u64 p.set.a, .int .u64 p.set.b, .int .u64 p.set.c, .int .u64 p.set.d, .int .i64 p.lo, .int .i64 p.hi, .int .i64 p.gr, .slice ad xs.length cap] s i lines (HIN.out.below HX.out.2.1) hsz hs
          obtain ⟨⟨spr, okr, xr⟩, hr⟩ : ∃ r, r = atR (parsesR (.mk p xs) s i lines) i := ⟨_, rfl⟩
          rw [← hr] at ha
          have HA := hid ha
          have HRR := hid hr
          clear ha hr
          go_wp2_with fail
          refine HA.out.mono ?_
          rintro e z2 ⟨a, c, rfl, hb, hsq⟩
          have HZ2 := hid (⟨⟨HX.out.1.1.below hb HX.out.1.1.lt, HX.out.1.2.below hb HX.out.1.2.lt⟩, HX.out.2.1.trans (hb.mono HX.out.2.1.size), hsq⟩ : (Row z2 _ _ _ ∧ Row z2 _ _ _) ∧ Below w.heap.size w z2 ∧ SpQ z2 _ _)
          clear hb hsq q0 q1 q2
          dsimp only at HZ2 ⊢
          go_upto_region 10 with fail
          have hal : Below z2.heap.size z2 (z2.alloc (.cells #[.slice a spr.length c] 43)) := (Below.refl _ _).alloc (Nat.le_refl _) _
          have HZ3 := hid (⟨⟨HZ2.out.1.1.alloc (.cells #[.slice a spr.length c] 43), HZ2.out.1.2.alloc (.cells #[.slice a spr.length c] 43)⟩, HZ2.out.2.1.trans (hal.mono HZ2.out.2.1.size), HZ2.out.2.2.below hal, Row.new (w := z2) (cs := [.slice a spr.length c]) (T := 43) rfl⟩ : (Row _ _ _ _ ∧ Row _ _ _ _) ∧ Below w.heap.size w _ ∧ SpQ _ _ _ ∧ Row (z2.alloc (.cells #[.slice a spr.length c] 43)) z2.heap.size _ _)
          clear hal
          generalize (z2.alloc (.cells #[.slice a spr.length c] 43)) = z3 at HZ3 ⊢
          have q1 := HZ3.out.1.2.cell 0
          have q2 := HZ3.out.1.2.free 0
          have q3 := HZ3.out.2.2.2.cell 0
          have hcase : (xr = 0 ∧ okr = false) ∨ ((¬ xr = 0 ∨ (xr = 0 ∧ okr = true)) ∧ Hid (okr = true ∨ xr ≠ 0)) := by
            unfold Hid
            by_cases h1 : xr = 0 <;> cases okr <;> simp [h1]
          rcases hcase with ⟨h1, h2⟩ | ⟨h1 | ⟨h1, h2⟩, HH⟩
          · subst h1; subst h2
            have HN : Hid (LefL (.mk p xs) s lines w [.int .i64 p.op, .int .u64 p.set.a, .int .u64 p.set.b, .int .u64 p.set.c, .int .u64 p.set.d, .int .i64 p.lo, .int .i64 p.hi, .int .i64 p.gr, .slice ad xs.length cap] f (i + 1) z3) := ⟨HZ3.out.1, HZ3.out.2.1, by rw [HX.out.2.2]; exact leftR_miss hle HRR.out ⟨rfl, rfl⟩⟩
            clear HZ2 HZ3 q1 q2 q3 HX HST
            go_wp2_with fail
            refine ⟨⟨i + 1, by go_num, by omega, by omega, HN.out⟩, ?_⟩
            simp [intOf] <;> omega
          all_goals
            have hres : leftmostR (.mk p xs) s f lines = _ := HLM.out.trans (HX.out.2.2.trans (leftR_hit hle HRR.out HH.out))
            have HF : Hid (MatchPost w (leftmostR (.mk p xs) s f lines) (.returned (.tuple #[.agg #[.slice a spr.length c], .bool okr, .int .i64 xr])) (z3.setCell ⟨w.heap.size + 1, 0, none⟩ (.slice a spr.length c))) := by
              rw [hres]
              refine ⟨a, c, rfl, HZ3.out.2.1.setCell (by simp) _, HZ3.out.2.2.1.of fun b8 cs8 hr8 => hr8.other (fun e => by subst e; exact absurd (hr8.typed HZ3.out.1.2) (by decide)) _ _⟩
            clear hres
            try subst h1
            try subst h2
            go_wp2_with fail
            refine bodyPost_ret (results_cell_tmp2 rfl _ _ (w.heap.size + 1) _ _ _ _ rfl (show _ = some (Obj.cells (List.toArray _) _) from HZ3.out.1.2.set 0 (.slice a spr.length c)) Try.underlying43 rfl (by kernel_rfl)) rfl ?_
            exact HF.out
        · obtain rfl : i = s.size + 1 := by omega
          have hleI : ¬ ((s.size + 1 : Nat) : Int) ≤ (s.size : Int) := by omega
          have HF : Hid (MatchPost w (leftmostR (.mk p xs) s f lines) (.returned (.tuple #[.agg #[.slice none 0 0], .bool false, .int .i64 0])) (wr.setCell ⟨w.heap.size + 1, 0, none⟩ (.slice none 0 0))) := by
            have : leftmostR (.mk p xs) s f lines = ([], false, 0) := by rw [HLM.out, HX.out.2.2, Nat.sub_self]; rfl
            rw [this]
            exact ⟨none, 0, rfl, HX.out.2.1.setCell (by simp) _, ⟨none, 0, rfl, .inl rfl⟩⟩
          have HX2 := hid HX.out.1.2
          clear HX HST HLM
          go_wp2_with fail
          refine bodyPost_ret (results_cell_tmp2 rfl _ _ (w.heap.size + 1) _ _ _ _ rfl (show _ = some (Obj.cells (List.toArray _) _) from HX2.out.set 0 (.slice none 0 0)) Try.underlying43 rfl (by kernel_rfl)) rfl ?_
          exact HF.out
  · have hc : chk (.mk p xs) s at_ = er := by unfold chk; rw [if_pos (by rw [← HER.out]; exact he), HER.out]
    have HA : Hid (MatchPost w (leftmostR (.mk p xs) s at_ lines) (.returned (.tuple #[.agg #[.slice none 0 0], .bool false, .int .i64 er])) (z.setCell ⟨w.heap.size + 1, 0, none⟩ (.slice none 0 0))) := by
      have : leftmostR (.mk p xs) s at_ lines = ([], false, er) := by unfold leftmostR; rw [hc, if_pos he]
      rw [this]
      exact ⟨none, 0, rfl, HZ.out.2.setCell (by simp) _, ⟨none, 0, rfl, .inl rfl⟩⟩
    clear hc HER
    go_wp2_with fail
    refine bodyPost_ret (results_cell_tmp2 rfl _ _ (w.heap.size + 1) _ _ _ _ rfl (show _ = some (Obj.cells (List.toArray _) _) from HZ.out.1.2.set 0 (.slice none 0 0)) Try.underlying43 rfl (by kernel_rfl)) rfl ?_
    exact HA.out
end Go.Proofs.Ythnpbopnpdlmnaa

/- The laws of layer 9: few. -/
namespace Go.Proofs.Ythnpbopnpdlmnaa
open Go.RowKit
attribute [local go_sem] gives givesUpon

end Go.Proofs.Ythnpbopnpdlmnaa

/- The laws of layer 9: their helpers over trees (count, Small, anchored, closing), each as a plain function. -/
namespace Go.Proofs.Ythnpbopnpdlmnaa
open Go.RowKit
attribute [local go_sem] gives givesUpon

mutual
def Re.cnt : Re → Nat → Nat → Nat
  | .mk p xs, n, lv => if lv = 0 ∨ 6 < xs.length ∨ 4 < p.lo ∨ 4 < p.hi then n + 1 else Re.cnts xs n 1 (lv - 1)
def Re.cnts : List Re → Nat → Nat → Nat → Nat
  | [], _, k, _ => k
  | x :: xs, n, k, lv => if k ≤ n then Re.cnts xs n (k + x.cnt (n - k) lv) lv else k
end
mutual
theorem Re.cnt_le : ∀ (t : Re) (n lv : Nat), t.cnt n lv ≤ n + 1 ∧ (t.cnt n lv ≤ n → t.size = t.cnt n lv)
  | .mk p xs, n, lv => by
    rw [Re.cnt]
    split
    · exact ⟨Nat.le_refl _, fun h => absurd h (by omega)⟩
    · obtain ⟨h1, h2⟩ := Re.cnts_le xs n 1 (lv - 1) (by omega)
      exact ⟨h1, fun h => by rw [Re.size_mk]; have := h2 h; omega⟩
theorem Re.cnts_le : ∀ (xs : List Re) (n k lv : Nat), k ≤ n + 1 → Re.cnts xs n k lv ≤ n + 1 ∧ (Re.cnts xs n k lv ≤ n → k + Re.sizes xs = Re.cnts xs n k lv)
  | [], n, k, lv, hk => by rw [Re.cnts]; exact ⟨hk, fun _ => rfl⟩
  | x :: xs, n, k, lv, hk => by
    rw [Re.cnts]
    split
    · have h1 := Re.cnt_le x (n - k) lv
      have h2 := Re.cnts_le xs n (k + x.cnt (n - k) lv) lv (by omega)
      refine ⟨h2.1, fun h => ?_⟩
      have h3 := h2.2 h
      have h4 : Re.sizes (x :: xs) = x.size + Re.sizes xs := rfl
      have h5 := h1.2 (by omega)
      omega
    · rename_i h
      exact ⟨hk, fun h' => absurd h' h⟩
end
def Re.small (t : Re) (n : Nat) : Bool := decide (t.cnt n 8 ≤ n)
theorem Re.small_size {t : Re} {n : Nat} (h : t.small n = true) : t.size ≤ n := by
  unfold Re.small at h
  rw [decide_eq_true_eq] at h
  have := (Re.cnt_le t n 8).2 h
  omega
set_option maxRecDepth 100000 in
set_option maxHeartbeats 8000000 in
theorem cnt9_any (wb : World) (t : Re) : ∀ (w : World) (cs : List Value) (n lv : Nat), t.In wb cs → Below wb.heap.size wb w → n ≤ 1000 → lv ≤ 8 →
    Calls Try.prog 24 #[.agg cs.toArray, .int .i64 n, .int .i64 lv] w fun e w' => e = .returned (.int .i64 (t.cnt n lv : Nat)) ∧ Below w.heap.size w w' := by
  induction t using Re.ind with
  | h p xs ih =>
    intro w cs n lv hIn hbw hn hlv
    rw [Re.In] at hIn
    obtain ⟨ad, cap, rfl, hwf, hlc, hcm, hnil, hall⟩ := hIn
    have HIH := hid ih
    have HAL := hid hall
    have HBW := hid hbw
    clear ih hall hwf hbw
    simp only [Pay.cells]
    have hr0 := (Row.new (w := w) (cs := [.int .i64 p.op, .int .u64 p.set.a, .int .u64 p.set.b, .int .u64 p.set.c, .int .u64 p.set.d, .int .i64 p.lo, .int .i64 p.hi, .int .i64 p.gr, .slice ad xs.length cap]) (T := 28) rfl)
    have HR0 := hid hr0
    have q0 := hr0.c9
    have HAL0 := hid ((Below.refl w.heap.size w).alloc (Nat.le_refl _) (.cells #[.int .i64 p.op, .int .u64 p.set.a, .int .u64 p.set.b, .int .u64 p.set.c, .int .u64 p.set.d, .int .i64 p.lo, .int .i64 p.hi, .int .i64 p.gr, .slice ad xs.length cap] 28))
    clear hr0
    obtain ⟨res, hres⟩ : ∃ res, res = (Re.mk p xs).cnt n lv := ⟨_, rfl⟩
    rw [← hres]
    have HRES := hid hres
    rw [Re.cnt] at hres
    by_cases hbad : lv = 0 ∨ 6 < xs.length ∨ 4 < p.lo ∨ 4 < p.hi
    · rw [if_pos hbad] at hres
      subst hres
      by_cases h1 : lv = 0
      · subst h1
        go_enter Try.func24, Try.ntmps24
        go_wp2_with fail
        go_ret
        exact ⟨by simp, HAL0.out⟩
      · have d1 : ((lv : Int) == 0) = false := by simp; omega
        by_cases h2 : 6 < xs.length
        · have h2I : (6 : Int) < xs.length := by omega
          clear h1
          go_enter Try.func24, Try.ntmps24
          go_wp2_with fail
          go_ret
          exact ⟨by simp, HAL0.out⟩
        · have h2I : ¬ (6 : Int) < xs.length := by omega
          by_cases h3 : 4 < p.lo
          · clear h1
            go_enter Try.func24, Try.ntmps24
            go_wp2_with fail
            go_ret
            exact ⟨by simp, HAL0.out⟩
          · have h4 : 4 < p.hi := by omega
            clear h1
            go_enter Try.func24, Try.ntmps24
            go_wp2_with fail
            go_ret
            exact ⟨by simp, HAL0.out⟩
    · rw [if_neg hbad] at hres
      have HRS := hid hres
      clear hres HRES
      have d1 : ((lv : Int) == 0) = false := by simp; omega
      have h2 : ¬ 6 < xs.length := by omega
      have h2I : ¬ (6 : Int) < xs.length := by omega
      have h3 : ¬ 4 < p.lo := by omega
      have h4 : ¬ 4 < p.hi := by omega
      have hl0 : 0 < lv := by omega
      clear hbad
      go_enter Try.func24, Try.ntmps24
      go_wp2_with fail
      go_loopw [7, 8] (fun v i wr => ∃ (k j : Nat), k ≤ n + 1 ∧ j ≤ xs.length ∧ v = .int .i64 k ∧ i = .int .i64 j ∧ Hid ((Row wr w.heap.size [.int .i64 p.op, .int .u64 p.set.a, .int .u64 p.set.b, .int .u64 p.set.c, .int .u64 p.set.d, .int .i64 p.lo, .int .i64 p.hi, .int .i64 p.gr, .slice ad xs.length cap] 28 ∧ Below w.heap.size w wr) ∧ Re.cnts xs n 1 (lv - 1) = Re.cnts (xs.drop j) n k (lv - 1))) (fun _ i _ => xs.length - (intOf i).toNat)
      case atStart => exact ⟨1, 0, by omega, Nat.zero_le _, rfl, rfl, ⟨HR0.out, HAL0.out⟩, rfl⟩
      case round =>
        obtain ⟨k, j, hk, hj, rfl, rfl, HX0⟩ := hrel
        have HX := hid HX0.out.1
        have HKK := hid HX0.out.2
        clear HX0
        have q1 := HX.out.1.c9
        clear q0
        by_cases hlt : j < xs.length
        · have hdrop := List.drop_eq_getElem_cons hlt
          by_cases hkn : k ≤ n
          · have HBL : Hid (Below wb.heap.size wb wr) := HBW.out.trans (HX.out.2.mono HBW.out.size)
            obtain ⟨b, o, p', ad', n', cap', rfl, HC, HI0, hbb⟩ := HAL.out.kid HBL.out j hlt
            have HKN : Hid (Re.cnts xs n 1 (lv - 1) = Re.cnts (xs.drop (j + 1)) n (k + xs[j].cnt (n - k) (lv - 1)) (lv - 1) ∧ xs[j].cnt (n - k) (lv - 1) ≤ n - k + 1) := ⟨by have := HKK.out; rw [hdrop, Re.cnts, if_pos hkn] at this; exact this, (Re.cnt_le _ _ _).1⟩
            have hjI : (j : Int) < xs.length := by omega
            have hkI : (k : Int) ≤ n := by omega
            clear hdrop
            go_wp2_with (first | (with_reducible (refine wpList_load_agg rfl 28 _ rfl b (o + (j * 9)) rfl _ _ HC.out Try.underlying28 rfl (size_re9 _ _ _ _ _ _ _ _ _) ?_)))
            have H1 := HIH.out xs[j] (List.getElem_mem _) wr _ (n - k) (lv - 1) HI0.out HBL.out (by omega) (by omega)
            obtain ⟨r, hr⟩ : ∃ r, r = xs[j].cnt (n - k) (lv - 1) := ⟨_, rfl⟩
            rw [← hr] at H1 HKN
            clear hr
            rw [show ((n - k : Nat) : Int) = (n : Int) - k by omega, show ((lv - 1 : Nat) : Int) = (lv : Int) - 1 by omega] at H1
            refine H1.mono ?_
            clear H1
            rintro e w2 ⟨rfl, hb2⟩
            have hr9 : r ≤ n - k + 1 := HKN.out.2
            have HX2 := hid (⟨HX.out.1.below hb2 HX.out.1.lt, HX.out.2.trans (hb2.mono HX.out.2.size)⟩ : Row w2 _ _ _ ∧ Below _ _ w2)
            clear hb2
            go_wp2_with fail
            refine ⟨⟨k + r, j + 1, by omega, by omega, by go_num, by go_num, HX2.out, HKN.out.1⟩, ?_⟩
            simp [intOf]; omega
          · have hkI : ¬ (k : Int) ≤ n := by omega
            have hjI : (j : Int) < xs.length := by omega
            have HE : Hid (k = res) := by have := HKK.out; rw [hdrop, Re.cnts, if_neg hkn] at this; exact (HRS.out.trans this).symm
            clear hdrop
            go_wp2_with fail
            go_ret
            exact ⟨by rw [HE.out]; rfl, HX.out.2⟩
        · have hjI : ¬ (j : Int) < xs.length := by omega
          have HE : Hid (k = res) := by have := HKK.out; rw [List.drop_eq_nil_of_le (by omega), Re.cnts] at this; exact (HRS.out.trans this).symm
          go_wp2_with fail
          go_ret
          exact ⟨by rw [HE.out]; rfl, HX.out.2⟩
set_option maxHeartbeats 2000000 in
theorem SmallB_any (w : World) (t : Re) (cs : List Value) (n : Nat) (hin : t.In w cs) (hn : n ≤ 1000) :
    Calls Try.prog 6 #[.agg cs.toArray, .int .i64 n] w fun e w' => e = .returned (.bool (t.small n)) ∧ Below w.heap.size w w' := by
  obtain ⟨p, ad, m, c, rfl⟩ := Re.cells_shape hin
  have HI := hid hin
  have HB := hid ((Below.refl w.heap.size w).alloc (Nat.le_refl _) (.cells #[.int .i64 p.op, .int .u64 p.set.a, .int .u64 p.set.b, .int .u64 p.set.c, .int .u64 p.set.d, .int .i64 p.lo, .int .i64 p.hi, .int .i64 p.gr, .slice ad m c] 28))
  clear hin
  have hct := fun x hx => cnt9_any w t x #[.int .i64 p.op, .int .u64 p.set.a, .int .u64 p.set.b, .int .u64 p.set.c, .int .u64 p.set.d, .int .i64 p.lo, .int .i64 p.hi, .int .i64 p.gr, .slice ad m c].toList n 8 HI.out hx hn (by omega)
  obtain ⟨r, hr⟩ : ∃ r, r = t.cnt n 8 := ⟨_, rfl⟩
  have hsm : t.small n = decide (r ≤ n) := by unfold Re.small; rw [hr]
  rw [← hr] at hct
  rw [hsm]
  have HCT := hid hct
  clear hr hsm hct
  go_enter Try.func6, Try.ntmps6
  go_wp2_with fail
  refine (HCT.out _ HB.out).mono ?_
  rintro e w1 ⟨rfl, hb⟩
  have HB1 := hid (HB.out.trans (hb.mono (by simp)))
  clear hb
  by_cases h : (r : Int) ≤ n
  · have h2 : r ≤ n := by omega
    go_wp2_with fail
    go_ret
    exact ⟨by simp; omega, HB1.out⟩
  · have h2 : ¬ r ≤ n := by omega
    go_wp2_with fail
    go_ret
    exact ⟨by simp; omega, HB1.out⟩
end Go.Proofs.Ythnpbopnpdlmnaa
