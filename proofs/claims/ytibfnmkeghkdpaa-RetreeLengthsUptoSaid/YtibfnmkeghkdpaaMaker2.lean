/- The law's maker: what it keeps, next again, times. -/
import Derived.Test.YtibfnmkeghkdpaaMaker
namespace Go.Proofs.Ytibfnmkeghkdpaa
open Go.RowKit
attribute [local go_sem] gives givesUpon

/-- Where a maker lies, and what is known of the groups. -/
structure MK where
  mb : Nat
  tb : Nat
  gb : Nat
  nn : Nat
  ca : Option Addr
  cn : Nat
  cc : Nat
  G : Int → Option Facts
structure MK.ok (Z : MK) (wb : World) : Prop where
  m : wb.heap.size ≤ Z.mb
  t : wb.heap.size ≤ Z.tb
  g : wb.heap.size ≤ Z.gb
  mt : Z.mb ≠ Z.tb
  mg : Z.mb ≠ Z.gb
  tg : Z.tb ≠ Z.gb
  ch : ChAt wb Z.ca Z.cn
  cn : Z.cn ≤ 1048576
  nn : Z.nn ≤ 9
  gok : GOk Z.G
def MK.row (Z : MK) (a left : Int) : List Value := [.slice Z.ca Z.cn Z.cc, .int .i64 a, .slice (some ⟨Z.tb, 0, none⟩) Z.nn Z.nn, .slice (some ⟨Z.gb, 0, none⟩) Z.nn Z.nn, .int .i64 left]
/-- The maker is whole: each text that a group gave is one that the group's facts allow. -/
def MAt (Z : MK) (w : World) (left : Int) : Prop :=
  ∃ (a : Int) (ts : List ByteArray) (gs : List Bool), Row w Z.mb (Z.row a left) 46 ∧ (0 ≤ a ∧ a ≤ Z.cn) ∧ Row w Z.tb (ts.map .string) 9 ∧ Row w Z.gb (gs.map .bool) 4 ∧ ts.length = Z.nn ∧ gs.length = Z.nn ∧
    ∀ k : Nat, gs[k]? = some true → ∃ s, ts[k]? = some s ∧ Fit ((Z.G ((k : Int) + 1)).getD Facts.zero) s.data.toList
theorem MAt.but {Z : MK} {S : List Nat} {w x : World} {left : Int} (h : MAt Z w left) (hb : But S w x) (h1 : Z.mb ∉ S) (h2 : Z.tb ∉ S) (h3 : Z.gb ∉ S) : MAt Z x left := by
  obtain ⟨a, ts, gs, r1, r2, r3, r4, r5⟩ := h
  exact ⟨a, ts, gs, r1.but hb h1, r2, r3.but hb h2, r4.but hb h3, r5⟩
theorem MAt.below {Z : MK} {w x : World} {left : Int} (h : MAt Z w left) (hb : Below w.heap.size w x) : MAt Z x left := h.but (S := []) (But.of_below hb) (by simp) (by simp) (by simp)
theorem MAt.drew {Z : MK} {w : World} {left : Int} (h : MAt Z w left) : MAt Z w.drew left := h
theorem MAt.lt {Z : MK} {w : World} {left : Int} (h : MAt Z w left) : Z.mb < w.heap.size ∧ Z.tb < w.heap.size ∧ Z.gb < w.heap.size := by
  obtain ⟨a, ts, gs, r1, r2, r3, r4, r5⟩ := h
  exact ⟨r1.lt, r3.lt, r4.lt⟩
theorem Row.inj {w : World} {B : Nat} {cs ds : List Value} {T : TypeId} (h : Row w B cs T) (k : Row w B ds T) : cs = ds := by
  have e := Option.some.inj (h.symm.trans k)
  injection e with e1
  exact Array.toList_inj.2 e1 |> fun h => by simpa using h
/-- Only the place of the choices may be another. -/
def NxR (Z : MK) (x y : World) : Prop := But [Z.mb] x y ∧ ∀ l, MAt Z x l → MAt Z y l
theorem NxR.refl {Z : MK} (x : World) : NxR Z x x := ⟨But.refl _ _, fun _ h => h⟩
theorem NxR.trans {Z : MK} (x y z : World) (h : NxR Z x y) (k : NxR Z y z) : NxR Z x z := ⟨h.1.trans k.1, fun l hl => k.2 l (h.2 l hl)⟩
theorem NxR.of_below {Z : MK} {x y : World} (h : Below x.heap.size x y) : NxR Z x y := ⟨But.of_below h, fun _ hl => hl.below h⟩
theorem nextM {Z : MK} {wb : World} (hz : Z.ok wb) {w : World} (hb : Below wb.heap.size wb w) {left : Int} (hM : MAt Z w left) (n : Int) (hn : 0 ≤ n ∧ n ≤ 1048576) :
    Calls Try.prog 51 #[.pointer (some ⟨Z.mb, 0, none⟩), .int .i64 n] w fun e w' => ∃ r : Int, e = .returned (.int .i64 r) ∧ 0 ≤ r ∧ (0 < n → r < n) ∧ NxR Z w w' := by
  obtain ⟨a, ts, gs, r1, r2, r3, r4, r5, r6, r7⟩ := hM
  refine (next_any Z.mb Z.ca Z.cn Z.cc a _ _ _ n w r1 (hz.ch.below hb) r2 hn hz.cn).mono ?_
  rintro e w' ⟨r, a', rfl, h1, h2, h3, h4, h5⟩
  refine ⟨r, rfl, h1, h2, h4, fun l hl => ?_⟩
  obtain ⟨b, ts', gs', k1, k2, k3, k4, k5, k6, k7⟩ := hl
  have e := r1.inj k1
  have el : left = l := by simp [MK.row] at e; exact e.2
  subst el
  exact ⟨a', ts', gs', h5, h3, k3.but h4 (by simp; exact fun h => hz.mt h.symm), k4.but h4 (by simp; exact fun h => hz.mg h.symm), k5, k6, k7⟩

/-- What times gives. -/
def TPost (Z : MK) (wb w : World) (p : Pay) (y : Re) (e : Ending) (w' : World) : Prop :=
  ∃ (n : Nat) (a : Option Addr) (c : Nat) (cx : List Value), e = .returned (.slice a n c) ∧ p.lo ≤ n ∧ (p.hi = -1 ∨ (n : Int) ≤ p.hi) ∧ n ≤ 67 ∧ NxR Z w w' ∧ y.In wb cx ∧ OwnRes w' (w.heap.size + 1) (fun _ => True) (.slice a n c) (List.replicate n (y, cx))

theorem info_re9m : (Try.prog.info? 28).map (fun i => (i.zero, i.size, i.bytes)) = some (some (.agg #[.int .i64 0, .int .u64 0, .int .u64 0, .int .u64 0, .int .u64 0, .int .i64 0, .int .i64 0, .int .i64 0, .slice none 0 0]), 9, 88) := info_re9'

set_option maxRecDepth 100000 in
set_option maxHeartbeats 8000000 in
theorem mtimes_any {Z : MK} {wb : World} (hz : Z.ok wb) (p : Pay) (y : Re) (w : World) (cs : List Value) (left : Int) (hIn : (Re.mk p [y]).In wb cs) (hbw : Below wb.heap.size wb w) (hM : MAt Z w left) (hlo : 0 ≤ p.lo ∧ p.lo ≤ 64) (hhi : p.hi = -1 ∨ (p.lo ≤ p.hi ∧ p.hi ≤ 64)) :
    Calls Try.prog 53 #[.pointer (some ⟨Z.mb, 0, none⟩), .agg cs.toArray] w (TPost Z wb w p y) := by
  rw [Re.In] at hIn
  obtain ⟨ad, cap, rfl, hwf, hlc, hcm, hnil, hall⟩ := hIn
  have HAL := hid hall
  have HBW := hid hbw
  have HM := hid hM
  have HZ := hid hz
  have HHI := hid hhi
  obtain ⟨hl1, hl2⟩ := hlo
  have hmlt := hM.lt.1
  clear hall hwf hbw hz hhi hM
  simp only [Pay.cells]
  have hal := (Below.refl w.heap.size w).alloc (Nat.le_refl _) (.cells #[.int .i64 p.op, .int .u64 p.set.a, .int .u64 p.set.b, .int .u64 p.set.c, .int .u64 p.set.d, .int .i64 p.lo, .int .i64 p.hi, .int .i64 p.gr, .slice ad [y].length cap] 28)
  have HB0 := hid (HBW.out.trans (hal.mono HBW.out.size))
  have HM0 := hid (HM.out.below hal)
  have HR0 := hid (Row.new (w := w) (B := w.heap.size) (cs := [.int .i64 p.op, .int .u64 p.set.a, .int .u64 p.set.b, .int .u64 p.set.c, .int .u64 p.set.d, .int .i64 p.lo, .int .i64 p.hi, .int .i64 p.gr, .slice ad [y].length cap]) (T := 28) rfl)
  have HN0 := hid (NxR.of_below (Z := Z) hal)
  clear hal
  go_enter Try.func53, Try.ntmps53
  go_wp2_with fail
  have HB0d : Hid (Below wb.heap.size wb (w.alloc (.cells #[.int .i64 p.op, .int .u64 p.set.a, .int .u64 p.set.b, .int .u64 p.set.c, .int .u64 p.set.d, .int .i64 p.lo, .int .i64 p.hi, .int .i64 p.gr, .slice ad [y].length cap] 28)).drew) := HB0.out.drew
  have HC := hid (fun (x : World) (hx : NxR Z (w.alloc (.cells #[.int .i64 p.op, .int .u64 p.set.a, .int .u64 p.set.b, .int .u64 p.set.c, .int .u64 p.set.d, .int .i64 p.lo, .int .i64 p.hi, .int .i64 p.gr, .slice ad [y].length cap] 28)).drew x) => (HR0.out.drew.but hx.1 (by simp; omega)).cell 5)
  have HBX := hid (fun (x : World) (hx : NxR Z (w.alloc (.cells #[.int .i64 p.op, .int .u64 p.set.a, .int .u64 p.set.b, .int .u64 p.set.c, .int .u64 p.set.d, .int .i64 p.lo, .int .i64 p.hi, .int .i64 p.gr, .slice ad [y].length cap] 28)).drew x) => (HB0.out.drew.trans (hx.1.below (n := wb.heap.size) HB0.out.size (fun k hk => by simp at hk; rw [hk]; exact HZ.out.m)) : Below wb.heap.size wb x))
  refine wp_region_inv 6 (NxR Z) (by kernel_rfl) (by kernel_rfl) (NxR.refl) (NxR.trans) ?_
  simp only [fill, dstOf, Act.put, List.take_succ_cons, List.take_zero, List.getElem?_toArray, List.getElem?_cons_zero, List.getElem?_cons_succ, Option.bind_some, List.setIfInBounds_toArray, List.set_cons_zero, List.set_cons_succ]
  refine Plan.det 1 rfl (NxR.refl) ?_
  apply Exists.intro
  refine ⟨fun vs x hR hF K hK => ?_, ?_⟩
  · clear hF
    go_simp
    exact hK _ _ (NxR.refl _) rfl
  refine Plan.det 2 rfl (NxR.refl) ?_
  apply Exists.intro
  refine ⟨fun vs x hR hF K hK => ?_, ?_⟩
  · have f0 := hF 0 _ _ rfl rfl; have hc := HC.out x hR; clear hF
    go_simp
    exact hK _ _ (NxR.refl _) rfl
  refine Plan.det 3 rfl (NxR.refl) ?_
  apply Exists.intro
  refine ⟨fun vs x hR hF K hK => ?_, ?_⟩
  · clear hF
    go_simp
    exact hK _ _ (NxR.refl _) rfl
  refine Plan.rel 4 rfl (NxR.refl) (fun v _ => ∃ r : Int, v = .int .i64 r ∧ 0 ≤ r ∧ r < 4) (fun _ _ _ _ h => h) (fun vs x hR hF K hK => ?_) ?_
  · have f2 := hF 0 _ _ rfl rfl
    go_simp
    refine (nextM HZ.out (HBX.out x hR) (hR.2 _ HM0.out.drew) 4 (by decide)).mono ?_
    rintro e x1 ⟨r, rfl, h1, h2, h3⟩
    exact ⟨_, rfl, hK _ _ h3 ⟨r, rfl, h1, h2 (by decide)⟩⟩
  refine Plan.rel 5 rfl (NxR.refl) (fun v _ => ∃ r : Int, v = .int .i64 (p.lo + r) ∧ 0 ≤ r ∧ r < 4) (fun _ _ _ _ h => h) (fun vs x hR hF K hK => ?_) ?_
  · have f1 := hF 2 _ _ rfl rfl; have f3 := hF 0 _ _ rfl rfl
    obtain ⟨r, e3, h1, h2⟩ := f3
    simp only [e3]
    go_simp
    rw [IntWalk.i64_in (p.lo + r) (by omega)]
    exact hK _ _ (NxR.refl _) ⟨r, rfl, h1, h2⟩
  refine Plan.rel 6 rfl (NxR.refl) (fun v _ => ∃ r : Int, v = .int .i64 (p.lo + r) ∧ 0 ≤ r ∧ r < 4) (fun _ _ _ _ h => h) (fun vs x hR hF K hK => ?_) ?_
  · have f0 := hF 4 _ _ rfl rfl; have f1 := hF 3 _ _ rfl rfl; have f2 := hF 2 _ _ rfl rfl; have f3 := hF 1 _ _ rfl rfl; have f4 := hF 0 _ _ rfl rfl
    obtain ⟨r, e4, h1, h2⟩ := f4
    simp only [e4]
    go_simp
    exact hK _ _ (NxR.refl _) ⟨r, rfl, h1, h2⟩
  refine Plan.nil (fun vs x hR hF => ?_)
  have f0 := hF 5 _ _ rfl; have f1 := hF 4 _ _ rfl; have f2 := hF 3 _ _ rfl; have f3 := hF 2 _ _ rfl; have f4 := hF 1 _ _ rfl; have f5 := hF 0 _ _ rfl
  clear hF
  simp only [f0, f1, f2]
  clear f0 f1 f2
  simp only [List.drop_succ_cons, List.drop_zero]
  obtain ⟨r3, e3, -⟩ := f3
  obtain ⟨r4, e4, -⟩ := f4
  obtain ⟨r, e5, hr1, hr2⟩ := f5
  simp only [e3, e4, e5]
  obtain ⟨n, hn⟩ : ∃ n : Nat, p.lo + r = n := ⟨(p.lo + r).toNat, by omega⟩
  rw [hn]
  have hloN : p.lo ≤ n := by omega
  have hn67 : n ≤ 67 := by omega
  have HNR : Hid (NxR Z w x) := ⟨HN0.out.1.drew.trans hR.1, fun l hl => hR.2 l (HN0.out.2 l hl).drew⟩
  have HROW := hid (HR0.out.drew.but hR.1 (by simp; omega))
  have HBB := hid (HBX.out x hR)
  obtain ⟨b, o, p', ad1, n1, cap1, rfl, HKC, HI0, hbb⟩ := HAL.out.kid HBB.out 0 (by simp)
  have HKC2 : Hid (CellsAt x b o [.int .i64 p'.op, .int .u64 p'.set.a, .int .u64 p'.set.b, .int .u64 p'.set.c, .int .u64 p'.set.d, .int .i64 p'.lo, .int .i64 p'.hi, .int .i64 p'.gr, .slice ad1 n1 cap1]) := by
    have h := HKC.out
    rw [Nat.zero_mul, Nat.add_zero] at h
    exact h
  clear hR HC e3 e4 e5 hn HKC HBX
  rcases (show decide (0 ≤ p.hi) = true ∨ decide (0 ≤ p.hi) = false by cases decide (0 ≤ p.hi) <;> simp) with d1 | d1
  · have HD1 := hid (of_decide_eq_true d1)
    have hge := HD1.out
    rcases (show decide (p.hi < (n : Int)) = true ∨ decide (p.hi < (n : Int)) = false by cases decide (p.hi < (n : Int)) <;> simp) with d2 | d2
    · have HD2 := hid (of_decide_eq_true d2)
      have hh64 : p.hi ≤ 64 := by have h3 := HHI.out; omega
      have q1 := HROW.out.c9
      have z1 := HROW.out.lt
      go_wp2_with fail
      go_loopw [6, 7] (fun v i wr => ∃ (k : Nat) (a : Option Addr) (c : Nat), (k : Int) ≤ p.hi ∧ k ≤ 67 ∧ v = .slice a k c ∧ i = .int .i64 k ∧ Hid (OwnRes wr x.heap.size (fun _ => True) (.slice a k c) (List.replicate k (y, ([.int .i64 p'.op, .int .u64 p'.set.a, .int .u64 p'.set.b, .int .u64 p'.set.c, .int .u64 p'.set.d, .int .i64 p'.lo, .int .i64 p'.hi, .int .i64 p'.gr, .slice ad1 n1 cap1] : List Value))) ∧ Below x.heap.size x wr)) (fun _ i _ => 67 - (intOf i).toNat)
      case atStart => exact ⟨0, none, 0, by omega, by omega, rfl, rfl, OwnRes.nil _ _ _, Below.refl _ _⟩
      case round =>
        obtain ⟨k, a, c, hk, hk67, rfl, rfl, HX⟩ := hrel
        have hrw := HROW.out.below HX.out.2 HROW.out.lt
        have q2 := hrw.c9
        have z2 := hrw.lt
        have HRW := hid hrw
        clear hrw q1 z1
        by_cases hlt : (k : Int) < p.hi
        · have HKW := hid (CellsAt.below HKC2.out HX.out.2)
          have hal := (Below.refl wr.heap.size wr).alloc (Nat.le_refl _) (.cells #[.int .i64 p'.op, .int .u64 p'.set.a, .int .u64 p'.set.b, .int .u64 p'.set.c, .int .u64 p'.set.d, .int .i64 p'.lo, .int .i64 p'.hi, .int .i64 p'.gr, .slice ad1 n1 cap1] 28)
          have HX2 := hid (HX.out.1.below hal)
          have hys : y.InS (fun j => j < wb.heap.size) wr [.int .i64 p'.op, .int .u64 p'.set.a, .int .u64 p'.set.b, .int .u64 p'.set.c, .int .u64 p'.set.d, .int .i64 p'.lo, .int .i64 p'.hi, .int .i64 p'.gr, .slice ad1 n1 cap1] := (HI0.out.all.lim.below (HBB.out.trans (HX.out.2.mono HBB.out.size))).mono fun j hj => hj.2
          have hxx : w.heap.size < x.heap.size := HROW.out.lt
          have hww := HBW.out.size
          have hin3 : y.InS (fun j => True ∧ (Value.slice a k c).ownBlock ≠ some j) wr [.int .i64 p'.op, .int .u64 p'.set.a, .int .u64 p'.set.b, .int .u64 p'.set.c, .int .u64 p'.set.d, .int .i64 p'.lo, .int .i64 p'.hi, .int .i64 p'.gr, .slice ad1 n1 cap1] := hys.mono fun j hj => ⟨trivial, fun e => by have := (HX.out.1.lt j e).1; omega⟩
          have HIN := hid (hin3.below hal)
          obtain ⟨i0, hi, hz0, hz1, hz2⟩ := info_parts info_re9m
          clear hys hin3
          go_wp2_with (first | (with_reducible (refine wpList_load_agg rfl 28 _ rfl b o rfl _ _ HKW.out Try.underlying28 rfl (size_re9 _ _ _ _ _ _ _ _ _) ?_)) | (at_builtin; refine wpList_append_row rfl _ _ 26 rfl x.heap.size 28 i0 (.agg #[.int .i64 0, .int .u64 0, .int .u64 0, .int .u64 0, .int .u64 0, .int .i64 0, .int .i64 0, .int .i64 0, .slice none 0 0]) 9 88 Try.underlying26 hi hz0 hz1 hz2 rfl (by decide) _ k ((List.replicate k (y, ([.int .i64 p'.op, .int .u64 p'.set.a, .int .u64 p'.set.b, .int .u64 p'.set.c, .int .u64 p'.set.d, .int .i64 p'.lo, .int .i64 p'.hi, .int .i64 p'.gr, .slice ad1 n1 cap1] : List Value))).flatMap Prod.snd) rfl (by have := HX2.out.1; rw [List.length_replicate] at this; exact this) ⟨wr.heap.size, 0, none⟩ 1 1 [.int .i64 p'.op, .int .u64 p'.set.a, .int .u64 p'.set.b, .int .u64 p'.set.c, .int .u64 p'.set.d, .int .i64 p'.lo, .int .i64 p'.hi, .int .i64 p'.gr, .slice ad1 n1 cap1] rfl rfl ?c1 ?c2 ?c3 ?c4 ?c5 (by decide) ?_))
          case c1 =>
            intro j u hj
            rw [Addr.add_lit, Nat.zero_add]
            exact (Row.new (w := wr) (cs := [.int .i64 p'.op, .int .u64 p'.set.a, .int .u64 p'.set.b, .int .u64 p'.set.c, .int .u64 p'.set.d, .int .i64 p'.lo, .int .i64 p'.hi, .int .i64 p'.gr, .slice ad1 n1 cap1]) (T := 28) rfl).cell j ▸ hj
          case c2 => intro u hu; simp at hu; rcases hu with rfl | rfl | rfl | rfl | rfl | rfl | rfl | rfl | rfl <;> rfl
          case c3 => unfold maxLen; omega
          case c4 => omega
          case c5 => have := HX.out.2.size; simp; omega
          intro a2 c2 w3 hown hgrow hnw
          have hv : ∀ g, (Value.slice a k c).ownBlock = some g → x.heap.size ≤ g := fun g hg => (HX2.out.lt g hg).1
          have hpush := HX2.out.push (n' := k + 1) (by rw [List.length_replicate]) hown hgrow (fun g hg => (hnw g hg).elim .inl fun h => .inr (by simpa using h)) HIN.out
          rw [← List.replicate_succ' (n := k)] at hpush
          have HPUSH := hid hpush
          have hbl : ∀ j, j < x.heap.size → w3.heap[j]? = wr.heap[j]? := fun j hj => (grown_block hgrow hv j hj (by have := HX.out.2.size; simp; omega)).trans (Below.heap_alloc _ _ _ (by have := HX.out.2.size; omega))
          have hb3 : Below x.heap.size x w3 := ⟨hgrow.os.trans HX.out.2.os, hgrow.tape.trans HX.out.2.tape, hgrow.output.trans HX.out.2.output, by have h1 := hgrow.size; have h2 := HX.out.2.size; simp at h1; omega, fun j hj => (hbl j hj).trans (HX.out.2.block j hj)⟩
          have HB3 := hid hb3
          clear hv hpush hbl hb3 hown hgrow hnw
          go_wp2_with fail
          go_roundw
          case rel => exact ⟨k + 1, a2, c2, by omega, by omega, rfl, by go_num, HPUSH.out, HB3.out⟩
          case measure => simp [intOf]; omega
        · have hke : (k : Int) = p.hi := by omega
          have HKE := hid hke
          clear hke
          go_wp2_with fail
          go_ret
          have hke := HKE.out
          have h1 := HD1.out
          have h2 := HD2.out
          have h3 := HHI.out
          have hxx : w.heap.size < x.heap.size := HROW.out.lt
          unfold TPost
          exact ⟨k, a, c, [.int .i64 p'.op, .int .u64 p'.set.a, .int .u64 p'.set.b, .int .u64 p'.set.c, .int .u64 p'.set.d, .int .i64 p'.lo, .int .i64 p'.hi, .int .i64 p'.gr, .slice ad1 n1 cap1], rfl, by omega, by omega, by omega, NxR.trans _ _ _ HNR.out (NxR.of_below HX.out.2), HI0.out, ownsRow_base HX.out.1.1 (by omega), HX.out.1.2⟩
    · have HD2 := hid (of_decide_eq_false d2)
      have q1 := HROW.out.c9
      have z1 := HROW.out.lt
      go_wp2_with fail
      go_loopw [6, 7] (fun v i wr => ∃ (k : Nat) (a : Option Addr) (c : Nat), k ≤ n ∧ k ≤ 67 ∧ v = .slice a k c ∧ i = .int .i64 k ∧ Hid (OwnRes wr x.heap.size (fun _ => True) (.slice a k c) (List.replicate k (y, ([.int .i64 p'.op, .int .u64 p'.set.a, .int .u64 p'.set.b, .int .u64 p'.set.c, .int .u64 p'.set.d, .int .i64 p'.lo, .int .i64 p'.hi, .int .i64 p'.gr, .slice ad1 n1 cap1] : List Value))) ∧ Below x.heap.size x wr)) (fun _ i _ => 67 - (intOf i).toNat)
      case atStart => exact ⟨0, none, 0, by omega, by omega, rfl, rfl, OwnRes.nil _ _ _, Below.refl _ _⟩
      case round =>
        obtain ⟨k, a, c, hk, hk67, rfl, rfl, HX⟩ := hrel
        have hrw := HROW.out.below HX.out.2 HROW.out.lt
        have q2 := hrw.c9
        have z2 := hrw.lt
        have HRW := hid hrw
        clear hrw q1 z1
        by_cases hlt : k < n
        · have HKW := hid (CellsAt.below HKC2.out HX.out.2)
          have hal := (Below.refl wr.heap.size wr).alloc (Nat.le_refl _) (.cells #[.int .i64 p'.op, .int .u64 p'.set.a, .int .u64 p'.set.b, .int .u64 p'.set.c, .int .u64 p'.set.d, .int .i64 p'.lo, .int .i64 p'.hi, .int .i64 p'.gr, .slice ad1 n1 cap1] 28)
          have HX2 := hid (HX.out.1.below hal)
          have hys : y.InS (fun j => j < wb.heap.size) wr [.int .i64 p'.op, .int .u64 p'.set.a, .int .u64 p'.set.b, .int .u64 p'.set.c, .int .u64 p'.set.d, .int .i64 p'.lo, .int .i64 p'.hi, .int .i64 p'.gr, .slice ad1 n1 cap1] := (HI0.out.all.lim.below (HBB.out.trans (HX.out.2.mono HBB.out.size))).mono fun j hj => hj.2
          have hxx : w.heap.size < x.heap.size := HROW.out.lt
          have hww := HBW.out.size
          have hin3 : y.InS (fun j => True ∧ (Value.slice a k c).ownBlock ≠ some j) wr [.int .i64 p'.op, .int .u64 p'.set.a, .int .u64 p'.set.b, .int .u64 p'.set.c, .int .u64 p'.set.d, .int .i64 p'.lo, .int .i64 p'.hi, .int .i64 p'.gr, .slice ad1 n1 cap1] := hys.mono fun j hj => ⟨trivial, fun e => by have := (HX.out.1.lt j e).1; omega⟩
          have HIN := hid (hin3.below hal)
          obtain ⟨i0, hi, hz0, hz1, hz2⟩ := info_parts info_re9m
          clear hys hin3
          go_wp2_with (first | (with_reducible (refine wpList_load_agg rfl 28 _ rfl b o rfl _ _ HKW.out Try.underlying28 rfl (size_re9 _ _ _ _ _ _ _ _ _) ?_)) | (at_builtin; refine wpList_append_row rfl _ _ 26 rfl x.heap.size 28 i0 (.agg #[.int .i64 0, .int .u64 0, .int .u64 0, .int .u64 0, .int .u64 0, .int .i64 0, .int .i64 0, .int .i64 0, .slice none 0 0]) 9 88 Try.underlying26 hi hz0 hz1 hz2 rfl (by decide) _ k ((List.replicate k (y, ([.int .i64 p'.op, .int .u64 p'.set.a, .int .u64 p'.set.b, .int .u64 p'.set.c, .int .u64 p'.set.d, .int .i64 p'.lo, .int .i64 p'.hi, .int .i64 p'.gr, .slice ad1 n1 cap1] : List Value))).flatMap Prod.snd) rfl (by have := HX2.out.1; rw [List.length_replicate] at this; exact this) ⟨wr.heap.size, 0, none⟩ 1 1 [.int .i64 p'.op, .int .u64 p'.set.a, .int .u64 p'.set.b, .int .u64 p'.set.c, .int .u64 p'.set.d, .int .i64 p'.lo, .int .i64 p'.hi, .int .i64 p'.gr, .slice ad1 n1 cap1] rfl rfl ?c1 ?c2 ?c3 ?c4 ?c5 (by decide) ?_))
          case c1 =>
            intro j u hj
            rw [Addr.add_lit, Nat.zero_add]
            exact (Row.new (w := wr) (cs := [.int .i64 p'.op, .int .u64 p'.set.a, .int .u64 p'.set.b, .int .u64 p'.set.c, .int .u64 p'.set.d, .int .i64 p'.lo, .int .i64 p'.hi, .int .i64 p'.gr, .slice ad1 n1 cap1]) (T := 28) rfl).cell j ▸ hj
          case c2 => intro u hu; simp at hu; rcases hu with rfl | rfl | rfl | rfl | rfl | rfl | rfl | rfl | rfl <;> rfl
          case c3 => unfold maxLen; omega
          case c4 => omega
          case c5 => have := HX.out.2.size; simp; omega
          intro a2 c2 w3 hown hgrow hnw
          have hv : ∀ g, (Value.slice a k c).ownBlock = some g → x.heap.size ≤ g := fun g hg => (HX2.out.lt g hg).1
          have hpush := HX2.out.push (n' := k + 1) (by rw [List.length_replicate]) hown hgrow (fun g hg => (hnw g hg).elim .inl fun h => .inr (by simpa using h)) HIN.out
          rw [← List.replicate_succ' (n := k)] at hpush
          have HPUSH := hid hpush
          have hbl : ∀ j, j < x.heap.size → w3.heap[j]? = wr.heap[j]? := fun j hj => (grown_block hgrow hv j hj (by have := HX.out.2.size; simp; omega)).trans (Below.heap_alloc _ _ _ (by have := HX.out.2.size; omega))
          have hb3 : Below x.heap.size x w3 := ⟨hgrow.os.trans HX.out.2.os, hgrow.tape.trans HX.out.2.tape, hgrow.output.trans HX.out.2.output, by have h1 := hgrow.size; have h2 := HX.out.2.size; simp at h1; omega, fun j hj => (hbl j hj).trans (HX.out.2.block j hj)⟩
          have HB3 := hid hb3
          clear hv hpush hbl hb3 hown hgrow hnw
          go_wp2_with fail
          go_roundw
          case rel => exact ⟨k + 1, a2, c2, by omega, by omega, rfl, by go_num, HPUSH.out, HB3.out⟩
          case measure => simp [intOf]; omega
        · have hke : (k : Int) = n := by omega
          have HKE := hid hke
          clear hke
          go_wp2_with fail
          go_ret
          have hke := HKE.out
          have h1 := HD1.out
          have h2 := HD2.out
          have h3 := HHI.out
          have hxx : w.heap.size < x.heap.size := HROW.out.lt
          unfold TPost
          exact ⟨k, a, c, [.int .i64 p'.op, .int .u64 p'.set.a, .int .u64 p'.set.b, .int .u64 p'.set.c, .int .u64 p'.set.d, .int .i64 p'.lo, .int .i64 p'.hi, .int .i64 p'.gr, .slice ad1 n1 cap1], rfl, by omega, by omega, by omega, NxR.trans _ _ _ HNR.out (NxR.of_below HX.out.2), HI0.out, ownsRow_base HX.out.1.1 (by omega), HX.out.1.2⟩
  · have HD1 := hid (of_decide_eq_false d1)
    have q1 := HROW.out.c9
    have z1 := HROW.out.lt
    go_wp2_with fail
    go_loopw [6, 7] (fun v i wr => ∃ (k : Nat) (a : Option Addr) (c : Nat), k ≤ n ∧ k ≤ 67 ∧ v = .slice a k c ∧ i = .int .i64 k ∧ Hid (OwnRes wr x.heap.size (fun _ => True) (.slice a k c) (List.replicate k (y, ([.int .i64 p'.op, .int .u64 p'.set.a, .int .u64 p'.set.b, .int .u64 p'.set.c, .int .u64 p'.set.d, .int .i64 p'.lo, .int .i64 p'.hi, .int .i64 p'.gr, .slice ad1 n1 cap1] : List Value))) ∧ Below x.heap.size x wr)) (fun _ i _ => 67 - (intOf i).toNat)
    case atStart => exact ⟨0, none, 0, by omega, by omega, rfl, rfl, OwnRes.nil _ _ _, Below.refl _ _⟩
    case round =>
      obtain ⟨k, a, c, hk, hk67, rfl, rfl, HX⟩ := hrel
      have hrw := HROW.out.below HX.out.2 HROW.out.lt
      have q2 := hrw.c9
      have z2 := hrw.lt
      have HRW := hid hrw
      clear hrw q1 z1
      by_cases hlt : k < n
      · have HKW := hid (CellsAt.below HKC2.out HX.out.2)
        have hal := (Below.refl wr.heap.size wr).alloc (Nat.le_refl _) (.cells #[.int .i64 p'.op, .int .u64 p'.set.a, .int .u64 p'.set.b, .int .u64 p'.set.c, .int .u64 p'.set.d, .int .i64 p'.lo, .int .i64 p'.hi, .int .i64 p'.gr, .slice ad1 n1 cap1] 28)
        have HX2 := hid (HX.out.1.below hal)
        have hys : y.InS (fun j => j < wb.heap.size) wr [.int .i64 p'.op, .int .u64 p'.set.a, .int .u64 p'.set.b, .int .u64 p'.set.c, .int .u64 p'.set.d, .int .i64 p'.lo, .int .i64 p'.hi, .int .i64 p'.gr, .slice ad1 n1 cap1] := (HI0.out.all.lim.below (HBB.out.trans (HX.out.2.mono HBB.out.size))).mono fun j hj => hj.2
        have hxx : w.heap.size < x.heap.size := HROW.out.lt
        have hww := HBW.out.size
        have hin3 : y.InS (fun j => True ∧ (Value.slice a k c).ownBlock ≠ some j) wr [.int .i64 p'.op, .int .u64 p'.set.a, .int .u64 p'.set.b, .int .u64 p'.set.c, .int .u64 p'.set.d, .int .i64 p'.lo, .int .i64 p'.hi, .int .i64 p'.gr, .slice ad1 n1 cap1] := hys.mono fun j hj => ⟨trivial, fun e => by have := (HX.out.1.lt j e).1; omega⟩
        have HIN := hid (hin3.below hal)
        obtain ⟨i0, hi, hz0, hz1, hz2⟩ := info_parts info_re9m
        clear hys hin3
        go_wp2_with (first | (with_reducible (refine wpList_load_agg rfl 28 _ rfl b o rfl _ _ HKW.out Try.underlying28 rfl (size_re9 _ _ _ _ _ _ _ _ _) ?_)) | (at_builtin; refine wpList_append_row rfl _ _ 26 rfl x.heap.size 28 i0 (.agg #[.int .i64 0, .int .u64 0, .int .u64 0, .int .u64 0, .int .u64 0, .int .i64 0, .int .i64 0, .int .i64 0, .slice none 0 0]) 9 88 Try.underlying26 hi hz0 hz1 hz2 rfl (by decide) _ k ((List.replicate k (y, ([.int .i64 p'.op, .int .u64 p'.set.a, .int .u64 p'.set.b, .int .u64 p'.set.c, .int .u64 p'.set.d, .int .i64 p'.lo, .int .i64 p'.hi, .int .i64 p'.gr, .slice ad1 n1 cap1] : List Value))).flatMap Prod.snd) rfl (by have := HX2.out.1; rw [List.length_replicate] at this; exact this) ⟨wr.heap.size, 0, none⟩ 1 1 [.int .i64 p'.op, .int .u64 p'.set.a, .int .u64 p'.set.b, .int .u64 p'.set.c, .int .u64 p'.set.d, .int .i64 p'.lo, .int .i64 p'.hi, .int .i64 p'.gr, .slice ad1 n1 cap1] rfl rfl ?c1 ?c2 ?c3 ?c4 ?c5 (by decide) ?_))
        case c1 =>
          intro j u hj
          rw [Addr.add_lit, Nat.zero_add]
          exact (Row.new (w := wr) (cs := [.int .i64 p'.op, .int .u64 p'.set.a, .int .u64 p'.set.b, .int .u64 p'.set.c, .int .u64 p'.set.d, .int .i64 p'.lo, .int .i64 p'.hi, .int .i64 p'.gr, .slice ad1 n1 cap1]) (T := 28) rfl).cell j ▸ hj
        case c2 => intro u hu; simp at hu; rcases hu with rfl | rfl | rfl | rfl | rfl | rfl | rfl | rfl | rfl <;> rfl
        case c3 => unfold maxLen; omega
        case c4 => omega
        case c5 => have := HX.out.2.size; simp; omega
        intro a2 c2 w3 hown hgrow hnw
        have hv : ∀ g, (Value.slice a k c).ownBlock = some g → x.heap.size ≤ g := fun g hg => (HX2.out.lt g hg).1
        have hpush := HX2.out.push (n' := k + 1) (by rw [List.length_replicate]) hown hgrow (fun g hg => (hnw g hg).elim .inl fun h => .inr (by simpa using h)) HIN.out
        rw [← List.replicate_succ' (n := k)] at hpush
        have HPUSH := hid hpush
        have hbl : ∀ j, j < x.heap.size → w3.heap[j]? = wr.heap[j]? := fun j hj => (grown_block hgrow hv j hj (by have := HX.out.2.size; simp; omega)).trans (Below.heap_alloc _ _ _ (by have := HX.out.2.size; omega))
        have hb3 : Below x.heap.size x w3 := ⟨hgrow.os.trans HX.out.2.os, hgrow.tape.trans HX.out.2.tape, hgrow.output.trans HX.out.2.output, by have h1 := hgrow.size; have h2 := HX.out.2.size; simp at h1; omega, fun j hj => (hbl j hj).trans (HX.out.2.block j hj)⟩
        have HB3 := hid hb3
        clear hv hpush hbl hb3 hown hgrow hnw
        go_wp2_with fail
        go_roundw
        case rel => exact ⟨k + 1, a2, c2, by omega, by omega, rfl, by go_num, HPUSH.out, HB3.out⟩
        case measure => simp [intOf]; omega
      · have hke : (k : Int) = n := by omega
        have HKE := hid hke
        clear hke
        go_wp2_with fail
        go_ret
        have hke := HKE.out
        have h1 := HD1.out
    
        have h3 := HHI.out
        have hxx : w.heap.size < x.heap.size := HROW.out.lt
        unfold TPost
        exact ⟨k, a, c, [.int .i64 p'.op, .int .u64 p'.set.a, .int .u64 p'.set.b, .int .u64 p'.set.c, .int .u64 p'.set.d, .int .i64 p'.lo, .int .i64 p'.hi, .int .i64 p'.gr, .slice ad1 n1 cap1], rfl, by omega, by omega, by omega, NxR.trans _ _ _ HNR.out (NxR.of_below HX.out.2), HI0.out, ownsRow_base HX.out.1.1 (by omega), HX.out.1.2⟩
end Go.Proofs.Ytibfnmkeghkdpaa
