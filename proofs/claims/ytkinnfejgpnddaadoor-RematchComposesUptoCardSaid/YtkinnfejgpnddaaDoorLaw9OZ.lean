/- The laws of layer 9: RematchOrders. -/
import Derived.Test.YtkinnfejgpnddaaDoorK19
import Derived.Test.YtkinnfejgpnddaaDoorK20
import Derived.Test.YtkinnfejgpnddaaDoorK14
import Derived.Deep.QuietTactic
import Derived.BigQuiet
namespace Go.Proofs.YtkinnfejgpnddaaDoor
open Go.RowKit
attribute [local go_sem] gives givesUpon

theorem parsesR_zero {t : Re} {s : ByteArray} {at_ : Int} {lines : Bool} {l : List Parse} (h : parsesR t s at_ lines = (l, 0)) : ∃ f : Nat, at_ = f ∧ f ≤ s.size := by
  unfold parsesR at h
  split at h
  · rename_i hc
    injection h with h1 h2
    exact absurd h2 hc
  · rename_i hc
    obtain ⟨h1, h2, h3⟩ := chk_zero (Classical.byContradiction hc)
    exact ⟨at_.toNat, by omega, by omega⟩
/-- What is known of each parse. -/
def Good9 (t : Re) (s : ByteArray) (f : Nat) (l : List Parse) : Prop :=
  Neat l ∧ ∀ q, q ∈ l → f ≤ q.1 ∧ q.1 ≤ s.size ∧ q.2.length = t.groups ∧ ∀ x, x ∈ q.2 → x = (-1, -1) ∨ (f : Int) ≤ x.1 ∧ x.1 ≤ x.2 ∧ x.2 ≤ q.1
theorem parsesR_good {t : Re} {s : ByteArray} {f : Nat} {lines : Bool} : Good9 t s f (parsesR t s f lines).1 :=
  ⟨parsesR_neat, fun q hq => ⟨(parsesR_ok.1 q hq).1, (parsesR_ok.1 q hq).2.1, (parsesR_ok.1 q hq).2.2.1, parsesR_in q hq⟩⟩
theorem Good9.desc {t : Re} {s : ByteArray} {f : Nat} {l : List Parse} (h : Good9 t s f l) {j k : Nat} {x y : Parse} (hjk : j < k) (hx : l[j]? = some x) (hy : l[k]? = some y) : y.1 ≤ x.1 ∧ x ≠ y := by
  obtain ⟨h1, h2⟩ := List.getElem?_eq_some_iff.1 hx
  obtain ⟨h3, h4⟩ := List.getElem?_eq_some_iff.1 hy
  subst h2; subst h4
  exact ⟨List.pairwise_iff_getElem.1 h.1.1 j k h1 h3 hjk, List.pairwise_iff_getElem.1 h.1.2 j k h1 h3 hjk⟩
/-- The parse before a parse. -/
theorem prev9 {t : Re} {s : ByteArray} {f n : Nat} {l : List Parse} {P : Nat → Prop} {w : World} {b cc j u1 : Nat} {u2 : Spans} (hn : n = l.length) (hg : Good9 t s f l) (hp : PsQ P w (.slice (some ⟨b, 0, none⟩) n cc) l) (hq : l[j + 1]? = some (u1, u2)) (hlt : j + 1 < n) (h4 : n ≤ 4096) :
    IntKind.i64.wrap (j : Int) = (j : Int) ∧ (j : Int) < (n : Int) ∧ ∃ u0 : Nat, w.cell? ⟨b, j * 2, none⟩ = some (.int .i64 u0) ∧ ¬ (u0 : Int) < (u1 : Int) ∧ u1 ≤ u0 := by
  obtain ⟨b', cc', u0, u2', sa, sc, hq', ev, -, -, -, p0, -, -⟩ := hp.get (k := j) (by omega)
  injection ev with e1 e2 e3
  injection e1 with e1
  injection e1 with e1
  subst e1
  refine ⟨by rw [IntKind.wrap_i64]; omega, by omega, u0, p0, ?_⟩
  have := (hg.desc (Nat.lt_succ_self j) hq' hq).1
  dsimp only at this
  exact ⟨by omega, this⟩
set_option maxRecDepth 100000 in
set_option maxHeartbeats 16000000 in
theorem LawOrders9_any (w : World) (t : Re) (cs : List Value) (s : ByteArray) (at_ : Int) (lines : Bool) (hin : t.In w cs) (ht : Tabs9 w) :
    Calls Tryd.prog 6 #[.agg cs.toArray, .agg #[.string s, .int .i64 at_, .bool lines]] w (LawPost w) := by
  obtain ⟨p, ad, m, c, rfl⟩ := Re.cells_shape hin
  have hb2 : Below w.heap.size w ((w.alloc (.cells #[.int .i64 p.op, .int .u64 p.set.a, .int .u64 p.set.b, .int .u64 p.set.c, .int .u64 p.set.d, .int .i64 p.lo, .int .i64 p.hi, .int .i64 p.gr, .slice ad m c] 28)).alloc (.cells #[.string s, .int .i64 at_, .bool lines] 30)) := ((Below.refl _ _).alloc (Nat.le_refl _) _).alloc (by simp) _
  have hL : LawAt w t [.int .i64 p.op, .int .u64 p.set.a, .int .u64 p.set.b, .int .u64 p.set.c, .int .u64 p.set.d, .int .i64 p.lo, .int .i64 p.hi, .int .i64 p.gr, .slice ad m c] [.string s, .int .i64 at_, .bool lines] ((w.alloc (.cells #[.int .i64 p.op, .int .u64 p.set.a, .int .u64 p.set.b, .int .u64 p.set.c, .int .u64 p.set.d, .int .i64 p.lo, .int .i64 p.hi, .int .i64 p.gr, .slice ad m c] 28)).alloc (.cells #[.string s, .int .i64 at_, .bool lines] 30)) := ⟨(Row.new rfl).alloc _, Row.new (by simp), hb2, hin.below hb2, ht.on hb2⟩
  have HL := hid hL
  have HFEW := hid (few9_any ((w.alloc (.cells #[.int .i64 p.op, .int .u64 p.set.a, .int .u64 p.set.b, .int .u64 p.set.c, .int .u64 p.set.d, .int .i64 p.lo, .int .i64 p.hi, .int .i64 p.gr, .slice ad m c] 28)).alloc (.cells #[.string s, .int .i64 at_, .bool lines] 30)) t [.int .i64 p.op, .int .u64 p.set.a, .int .u64 p.set.b, .int .u64 p.set.c, .int .u64 p.set.d, .int .i64 p.lo, .int .i64 p.hi, .int .i64 p.gr, .slice ad m c] s hL.2.2.2.1)
  have q0 := hL.1.c9
  have q1 := hL.2.1.three9
  clear hb2 hL hin ht
  go_enter Tryd.func6, Tryd.ntmps6
  go_wp2_with fail
  refine HFEW.out.mono ?_
  rintro e w1 ⟨b, rfl, hbt, hb⟩
  have HL1 := hid (HL.out.later hb)
  have HBT := hid hbt
  clear hb hbt q0 q1 HL HFEW
  have q0 := HL1.out.1.c9
  have q1 := HL1.out.2.1.three9
  cases b with
  | false =>
    have HAW := hid (awake9_any w1 HL1.out.2.2.2.2)
    go_wp2_with fail
    refine HAW.out.mono ?_
    rintro e w2 ⟨rfl, hb⟩
    have HB := hid (HL1.out.2.2.1.trans (hb.mono HL1.out.2.2.1.size))
    clear hb q0 q1
    go_wp2_with fail
    go_ret
    exact ⟨rfl, HB.out⟩
  | true =>
    have hsz := (HBT.out (by simp)).1
    have hs := (HBT.out (by simp)).2
    have HSZ := hid (⟨hsz, hs⟩ : _ ∧ _)
    obtain ⟨⟨l, x⟩, hr⟩ : ∃ r, r = parsesR t s at_ lines := ⟨_, rfl⟩
    have hp1 := PParses_any w1 t [.int .i64 p.op, .int .u64 p.set.a, .int .u64 p.set.b, .int .u64 p.set.c, .int .u64 p.set.d, .int .i64 p.lo, .int .i64 p.hi, .int .i64 p.gr, .slice ad m c] s at_ lines HL1.out.2.2.2.1 (by omega) (by omega) HL1.out.2.2.2.2
    have hll := (parsesR_len (t := t) (s := s) (at_ := at_) (lines := lines))
    have hsp := (parsesR_sp (t := t) (s := s) (at_ := at_) (lines := lines))
    have hok := (parsesR_ok (t := t) (s := s) (at_ := at_) (lines := lines)).2
    rw [← hr] at hp1 hll hsp hok
    have HRR := hid hr
    have HP1 := hid hp1
    have HLL := hid hll
    have HSPN := hid hsp
    have HOK := hid hok
    clear hp1 hll hsp hr hok hsz
    go_wp2_with fail
    refine HP1.out.mono ?_
    rintro e w2 ⟨a2, c2, rfl, hb, hps⟩
    dsimp only at hps ⊢
    obtain ⟨n, hn⟩ : ∃ n, n = l.length := ⟨_, rfl⟩
    rw [← hn] at hps ⊢
    have HN := hid hn
    have HL2 := hid (HL1.out.later hb)
    have HPS := hid hps
    clear hb hps q0 q1 HP1 HL1 HBT hn
    have q0 := HL2.out.1.c9
    have q1 := HL2.out.2.1.three9
    by_cases hx : x = 0
    · subst hx
      obtain ⟨f, rfl, hfs⟩ := parsesR_zero HRR.out.symm
      have hgood := parsesR_good (t := t) (s := s) (f := f) (lines := lines)
      rw [← HRR.out] at hgood
      have HG := hid hgood
      have hn4 : n ≤ 4096 := by rw [HN.out]; exact HLL.out
      clear hgood
      go_wp2_with fail
      go_loopw [7] (fun v wr => ∃ i : Nat, i ≤ n ∧ v = .int .i64 i ∧ Hid (Below w2.heap.size w2 wr)) (fun v _ => n - (intOf v).toNat)
      case atStart => exact ⟨0, Nat.zero_le _, rfl, Below.refl _ _⟩
      case round =>
        obtain ⟨i, hi, rfl, HB⟩ := hrel
        obtain ⟨wo, hwo⟩ : ∃ wo : World, wo = wr := ⟨_, rfl⟩
        rw [← hwo] at HB
        subst hwo
        have HL3 := hid (HL2.out.later HB.out)
        clear q0 q1
        have q0 := HL3.out.1.c9
        have q1 := HL3.out.2.1.three9
        by_cases hlt : i < n
        · have hltI : (i : Int) < (n : Int) := by omega
          have HPW := hid (HPS.out.below HB.out)
          obtain ⟨b, cc, u1, u2, sa, sc, hq, ev, hb, -, -, p0, p1, hsq⟩ := HPW.out.get (k := i) (by rw [← HN.out]; exact hlt)
          injection ev with e1 e2 e3
          subst e1; subst e3
          have HQ := hid hq
          have hgq := HG.out.2 (u1, u2) (List.mem_of_getElem? hq)
          dsimp only at hgq
          obtain ⟨g1, g2, g3, g4⟩ := hgq
          have h9 : u2.length ≤ 9 := HSPN.out (u1, u2) (List.mem_of_getElem? hq)
          have HU := hid (⟨g4, h9⟩ : _ ∧ _)
          have HSQ := hid hsq
          have HC0 := hid (⟨p0, p1, hb⟩ : _ ∧ _ ∧ _)
          obtain ⟨gl, hgl⟩ : ∃ gl, gl = u2.length := ⟨_, rfl⟩
          have HGL := hid hgl
          rw [← hgl] at p1 HC0 HSQ g3
          have hgl9 : gl ≤ 9 := by rw [hgl]; exact h9
          have d1 : ¬ (u1 : Int) < (f : Int) := by omega
          have d2 : ¬ (s.size : Int) < (u1 : Int) := by omega
          have HGR := hid (fun (y : World) (hy : Grow wo.drew y) => (GroupsRef_any t y [.int .i64 p.op, .int .u64 p.set.a, .int .u64 p.set.b, .int .u64 p.set.c, .int .u64 p.set.d, .int .i64 p.lo, .int .i64 p.hi, .int .i64 p.gr, .slice ad m c] (HL3.out.later (grow_below hy)).2.2.2.1 (by have := HSZ.out; omega)).mono (R' := fun e w' => e = .returned (.int .i64 gl) ∧ Below y.heap.size y w') (fun e w' h => ⟨by rw [h.1, g3], h.2⟩))
          clear e2 hq g3 g4 h9 hsq hgl
          have HCase : Hid (i = 0 ∨ ∃ j, i = j + 1) := by cases i with | zero => exact .inl rfl | succ j => exact .inr ⟨j, rfl⟩
          rcases HCase.out with rfl | ⟨j, rfl⟩
          · -- V
            skip
            have HC := hid (fun (y : World) (hy : Grow wo.drew y) => (⟨(HL3.out.1.below (grow_below hy) HL3.out.1.lt).c9, (HL3.out.2.1.below (grow_below hy) HL3.out.2.1.lt).three9, ((grow_below hy).cell (p := ⟨b, 0 * 2, none⟩) HC0.out.2.2).trans HC0.out.1, ((grow_below hy).cell (p := ⟨b, 0 * 2 + 1, none⟩) HC0.out.2.2).trans HC0.out.2.1, trivial⟩ : _ ∧ _ ∧ _ ∧ _ ∧ _))
            go_wp2_with fail
            refine wp_region_inv 48 (Grow) (by kernel_rfl) (by kernel_rfl) (Grow.refl) (fun _ _ _ => Grow.trans) ?_
            simp only [fill, dstOf, Act.put, List.take_succ_cons, List.take_zero, List.getElem?_toArray, List.getElem?_cons_zero, List.getElem?_cons_succ, Option.bind_some, List.setIfInBounds_toArray, List.set_cons_zero, List.set_cons_succ]
            refine Plan.det 1 rfl (Grow.refl) ?_
            apply Exists.intro
            refine ⟨fun vs x hR hF K hK => ?_, ?_⟩
            · clear hF
              go_simp
              exact hK _ _ (Grow.refl _) rfl
            refine Plan.det 2 rfl (Grow.refl) ?_
            apply Exists.intro
            refine ⟨fun vs x hR hF K hK => ?_, ?_⟩
            · clear hF
              go_simp
              exact hK _ _ (Grow.refl _) rfl
            refine Plan.det 3 rfl (Grow.refl) ?_
            apply Exists.intro
            refine ⟨fun vs x hR hF K hK => ?_, ?_⟩
            · have f0 := hF 1 _ _ rfl rfl; have f1 := hF 0 _ _ rfl rfl; clear hF
              go_simp
              exact hK _ _ (Grow.refl _) rfl
            refine Plan.det 4 rfl (Grow.refl) ?_
            apply Exists.intro
            refine ⟨fun vs x hR hF K hK => ?_, ?_⟩
            · have f2 := hF 0 _ _ rfl rfl; clear hF
              go_simp
              exact hK _ _ (Grow.refl _) rfl
            refine Plan.det 5 rfl (Grow.refl) ?_
            apply Exists.intro
            refine ⟨fun vs x hR hF K hK => ?_, ?_⟩
            · have f3 := hF 0 _ _ rfl rfl; have hc := HC.out x hR; clear hF
              go_simp
              exact hK _ _ (Grow.refl _) rfl
            refine Plan.det 6 rfl (Grow.refl) ?_
            apply Exists.intro
            refine ⟨fun vs x hR hF K hK => ?_, ?_⟩
            · clear hF
              go_simp
              exact hK _ _ (Grow.refl _) rfl
            refine Plan.det 7 rfl (Grow.refl) ?_
            apply Exists.intro
            refine ⟨fun vs x hR hF K hK => ?_, ?_⟩
            · have f5 := hF 0 _ _ rfl rfl; have hc := HC.out x hR; clear hF
              go_simp
              exact hK _ _ (Grow.refl _) rfl
            refine Plan.det 8 rfl (Grow.refl) ?_
            apply Exists.intro
            refine ⟨fun vs x hR hF K hK => ?_, ?_⟩
            · have f4 := hF 2 _ _ rfl rfl; have f6 := hF 0 _ _ rfl rfl; clear hF
              go_simp
              exact hK _ _ (Grow.refl _) rfl
            refine Plan.det 9 rfl (Grow.refl) ?_
            apply Exists.intro
            refine ⟨fun vs x hR hF K hK => ?_, ?_⟩
            · have f7 := hF 0 _ _ rfl rfl; clear hF
              go_simp
              exact hK _ _ (Grow.refl _) rfl
            refine Plan.det 10 rfl (Grow.refl) ?_
            apply Exists.intro
            refine ⟨fun vs x hR hF K hK => ?_, ?_⟩
            · have f8 := hF 0 _ _ rfl rfl; clear hF
              go_simp
              exact hK _ _ (Grow.refl _) rfl
            refine Plan.det 11 rfl (Grow.refl) ?_
            apply Exists.intro
            refine ⟨fun vs x hR hF K hK => ?_, ?_⟩
            · have f8 := hF 1 _ _ rfl rfl; clear hF
              go_simp
              exact hK _ _ (Grow.refl _) rfl
            refine Plan.det 12 rfl (Grow.refl) ?_
            apply Exists.intro
            refine ⟨fun vs x hR hF K hK => ?_, ?_⟩
            · have f8 := hF 2 _ _ rfl rfl; have f9 := hF 1 _ _ rfl rfl; have f10 := hF 0 _ _ rfl rfl; clear hF
              go_simp
              exact hK _ _ (Grow.refl _) rfl
            refine Plan.det 13 rfl (Grow.refl) ?_
            apply Exists.intro
            refine ⟨fun vs x hR hF K hK => ?_, ?_⟩
            · have f8 := hF 3 _ _ rfl rfl; have f11 := hF 0 _ _ rfl rfl; clear hF
              go_simp
              exact hK _ _ (Grow.refl _) rfl
            refine Plan.det 14 rfl (Grow.refl) ?_
            apply Exists.intro
            refine ⟨fun vs x hR hF K hK => ?_, ?_⟩
            · have f8 := hF 4 _ _ rfl rfl; have f12 := hF 0 _ _ rfl rfl; have hc := HC.out x hR; clear hF
              go_simp
              exact hK _ _ (Grow.refl _) rfl
            refine Plan.det 15 rfl (Grow.refl) ?_
            apply Exists.intro
            refine ⟨fun vs x hR hF K hK => ?_, ?_⟩
            · have f8 := hF 5 _ _ rfl rfl; clear hF
              go_simp
              exact hK _ _ (Grow.refl _) rfl
            refine Plan.det 16 rfl (Grow.refl) ?_
            apply Exists.intro
            refine ⟨fun vs x hR hF K hK => ?_, ?_⟩
            · have f8 := hF 6 _ _ rfl rfl; have f14 := hF 0 _ _ rfl rfl; have hc := HC.out x hR; clear hF
              go_simp
              exact hK _ _ (Grow.refl _) rfl
            refine Plan.det 17 rfl (Grow.refl) ?_
            apply Exists.intro
            refine ⟨fun vs x hR hF K hK => ?_, ?_⟩
            · have f8 := hF 7 _ _ rfl rfl; have f15 := hF 0 _ _ rfl rfl; clear hF
              go_simp
              exact hK _ _ (Grow.refl _) rfl
            refine Plan.det 18 rfl (Grow.refl) ?_
            apply Exists.intro
            refine ⟨fun vs x hR hF K hK => ?_, ?_⟩
            · have f8 := hF 8 _ _ rfl rfl; have f13 := hF 3 _ _ rfl rfl; have f16 := hF 0 _ _ rfl rfl; clear hF
              go_simp
              exact hK _ _ (Grow.refl _) rfl
            refine Plan.det 19 rfl (Grow.refl) ?_
            apply Exists.intro
            refine ⟨fun vs x hR hF K hK => ?_, ?_⟩
            · have f8 := hF 9 _ _ rfl rfl; have f17 := hF 0 _ _ rfl rfl; clear hF
              go_simp
              exact hK _ _ (Grow.refl _) rfl
            refine Plan.det 20 rfl (Grow.refl) ?_
            apply Exists.intro
            refine ⟨fun vs x hR hF K hK => ?_, ?_⟩
            · have f8 := hF 10 _ _ rfl rfl; have f18 := hF 0 _ _ rfl rfl; clear hF
              go_simp
              exact hK _ _ (Grow.refl _) rfl
            refine Plan.det 21 rfl (Grow.refl) ?_
            apply Exists.intro
            refine ⟨fun vs x hR hF K hK => ?_, ?_⟩
            · have f19 := hF 0 _ _ rfl rfl; clear hF
              go_simp
              exact hK _ _ (Grow.refl _) rfl
            refine Plan.det 22 rfl (Grow.refl) ?_
            apply Exists.intro
            refine ⟨fun vs x hR hF K hK => ?_, ?_⟩
            · have f19 := hF 1 _ _ rfl rfl; clear hF
              go_simp
              exact hK _ _ (Grow.refl _) rfl
            refine Plan.det 23 rfl (Grow.refl) ?_
            apply Exists.intro
            refine ⟨fun vs x hR hF K hK => ?_, ?_⟩
            · have f19 := hF 2 _ _ rfl rfl; have f20 := hF 1 _ _ rfl rfl; have f21 := hF 0 _ _ rfl rfl; clear hF
              go_simp
              exact hK _ _ (Grow.refl _) rfl
            refine Plan.det 24 rfl (Grow.refl) ?_
            apply Exists.intro
            refine ⟨fun vs x hR hF K hK => ?_, ?_⟩
            · have f19 := hF 3 _ _ rfl rfl; have f22 := hF 0 _ _ rfl rfl; clear hF
              go_simp
              exact hK _ _ (Grow.refl _) rfl
            refine Plan.det 25 rfl (Grow.refl) ?_
            apply Exists.intro
            refine ⟨fun vs x hR hF K hK => ?_, ?_⟩
            · have f19 := hF 4 _ _ rfl rfl; have f23 := hF 0 _ _ rfl rfl; have hc := HC.out x hR; clear hF
              go_simp
              exact hK _ _ (Grow.refl _) rfl
            refine Plan.det 26 rfl (Grow.refl) ?_
            apply Exists.intro
            refine ⟨fun vs x hR hF K hK => ?_, ?_⟩
            · have f19 := hF 5 _ _ rfl rfl; have f24 := hF 0 _ _ rfl rfl; clear hF
              go_simp
              exact hK _ _ (Grow.refl _) rfl
            refine Plan.det 27 rfl (Grow.refl) ?_
            apply Exists.intro
            refine ⟨fun vs x hR hF K hK => ?_, ?_⟩
            · have f19 := hF 6 _ _ rfl rfl; have hc := HC.out x hR; clear hF
              go_simp
              exact hK _ _ (Grow.refl _) rfl
            refine Plan.det 28 rfl (Grow.refl) ?_
            apply Exists.intro
            refine ⟨fun vs x hR hF K hK => ?_, ?_⟩
            · have f19 := hF 7 _ _ rfl rfl; have f26 := hF 0 _ _ rfl rfl; clear hF
              go_simp
              refine (HGR.out x hR).mono ?_
              rintro e x1 ⟨rfl, hbe⟩
              exact ⟨_, rfl, hK _ _ hbe rfl⟩
            refine Plan.det 29 rfl (Grow.refl) ?_
            apply Exists.intro
            refine ⟨fun vs x hR hF K hK => ?_, ?_⟩
            · have f19 := hF 8 _ _ rfl rfl; have f25 := hF 2 _ _ rfl rfl; have f27 := hF 0 _ _ rfl rfl; clear hF
              go_simp
              exact hK _ _ (Grow.refl _) rfl
            refine Plan.det 30 rfl (Grow.refl) ?_
            apply Exists.intro
            refine ⟨fun vs x hR hF K hK => ?_, ?_⟩
            · have f19 := hF 9 _ _ rfl rfl; have f28 := hF 0 _ _ rfl rfl; clear hF
              go_simp
              exact hK _ _ (Grow.refl _) rfl
            refine Plan.det 31 rfl (Grow.refl) ?_
            apply Exists.intro
            refine ⟨fun vs x hR hF K hK => ?_, ?_⟩
            · have f27 := hF 2 _ _ rfl rfl; have f29 := hF 0 _ _ rfl rfl; clear hF
              go_simp
              exact hK _ _ (Grow.refl _) rfl
            refine Plan.det 32 rfl (Grow.refl) ?_
            apply Exists.intro
            refine ⟨fun vs x hR hF K hK => ?_, ?_⟩
            · have f30 := hF 0 _ _ rfl rfl; clear hF
              go_simp
              exact hK _ _ (Grow.refl _) rfl
            refine Plan.det 33 rfl (Grow.refl) ?_
            apply Exists.intro
            refine ⟨fun vs x hR hF K hK => ?_, ?_⟩
            · have f30 := hF 1 _ _ rfl rfl; have f31 := hF 0 _ _ rfl rfl; clear hF
              go_simp
              exact hK _ _ (Grow.refl _) rfl
            refine Plan.det 34 rfl (Grow.refl) ?_
            apply Exists.intro
            refine ⟨fun vs x hR hF K hK => ?_, ?_⟩
            · have f30 := hF 2 _ _ rfl rfl; have f32 := hF 0 _ _ rfl rfl; clear hF
              go_simp
              exact hK _ _ (Grow.refl _) rfl
            refine Plan.det 35 rfl (Grow.refl) ?_
            apply Exists.intro
            refine ⟨fun vs x hR hF K hK => ?_, ?_⟩
            · have f33 := hF 0 _ _ rfl rfl; clear hF
              go_simp
              exact hK _ _ (Grow.refl _) rfl
            refine Plan.det 36 rfl (Grow.refl) ?_
            apply Exists.intro
            refine ⟨fun vs x hR hF K hK => ?_, ?_⟩
            · have f33 := hF 1 _ _ rfl rfl; clear hF
              go_simp
              exact hK _ _ (Grow.refl _) rfl
            refine Plan.det 37 rfl (Grow.refl) ?_
            apply Exists.intro
            refine ⟨fun vs x hR hF K hK => ?_, ?_⟩
            · have f33 := hF 2 _ _ rfl rfl; have f35 := hF 0 _ _ rfl rfl; clear hF
              go_simp
              exact hK _ _ (Grow.refl _) rfl
            refine Plan.det 38 rfl (Grow.refl) ?_
            apply Exists.intro
            refine ⟨fun vs x hR hF K hK => ?_, ?_⟩
            · have f33 := hF 3 _ _ rfl rfl; have f34 := hF 2 _ _ rfl rfl; have f36 := hF 0 _ _ rfl rfl; clear hF
              go_simp
              exact hK _ _ (Grow.refl _) rfl
            refine Plan.det 39 rfl (Grow.refl) ?_
            apply Exists.intro
            refine ⟨fun vs x hR hF K hK => ?_, ?_⟩
            · have f33 := hF 4 _ _ rfl rfl; have f37 := hF 0 _ _ rfl rfl; clear hF
              go_simp
              exact hK _ _ (Grow.refl _) rfl
            refine Plan.det 40 rfl (Grow.refl) ?_
            apply Exists.intro
            refine ⟨fun vs x hR hF K hK => ?_, ?_⟩
            · have f33 := hF 5 _ _ rfl rfl; have f38 := hF 0 _ _ rfl rfl; have hc := HC.out x hR; clear hF
              go_simp
              exact hK _ _ (Grow.refl _) rfl
            refine Plan.det 41 rfl (Grow.refl) ?_
            apply Exists.intro
            refine ⟨fun vs x hR hF K hK => ?_, ?_⟩
            · have f33 := hF 6 _ _ rfl rfl; clear hF
              go_simp
              exact hK _ _ (Grow.refl _) rfl
            refine Plan.det 42 rfl (Grow.refl) ?_
            apply Exists.intro
            refine ⟨fun vs x hR hF K hK => ?_, ?_⟩
            · have f33 := hF 7 _ _ rfl rfl; clear hF
              go_simp
              exact hK _ _ (Grow.refl _) rfl
            refine Plan.det 43 rfl (Grow.refl) ?_
            apply Exists.intro
            refine ⟨fun vs x hR hF K hK => ?_, ?_⟩
            · have f33 := hF 8 _ _ rfl rfl; have f40 := hF 1 _ _ rfl rfl; have f41 := hF 0 _ _ rfl rfl; clear hF
              go_simp
              exact hK _ _ (Grow.refl _) rfl
            refine Plan.det 44 rfl (Grow.refl) ?_
            apply Exists.intro
            refine ⟨fun vs x hR hF K hK => ?_, ?_⟩
            · have f33 := hF 9 _ _ rfl rfl; have f42 := hF 0 _ _ rfl rfl; clear hF
              go_simp
              exact hK _ _ (Grow.refl _) rfl
            refine Plan.det 45 rfl (Grow.refl) ?_
            apply Exists.intro
            refine ⟨fun vs x hR hF K hK => ?_, ?_⟩
            · have f33 := hF 10 _ _ rfl rfl; have f43 := hF 0 _ _ rfl rfl; have hc := HC.out x hR; clear hF
              go_simp
              exact hK _ _ (Grow.refl _) rfl
            refine Plan.det 46 rfl (Grow.refl) ?_
            apply Exists.intro
            refine ⟨fun vs x hR hF K hK => ?_, ?_⟩
            · have f33 := hF 11 _ _ rfl rfl; have f39 := hF 5 _ _ rfl rfl; have f44 := hF 0 _ _ rfl rfl; clear hF
              go_simp
              exact hK _ _ (Grow.refl _) rfl
            refine Plan.det 47 rfl (Grow.refl) ?_
            apply Exists.intro
            refine ⟨fun vs x hR hF K hK => ?_, ?_⟩
            · have f30 := hF 15 _ _ rfl rfl; have f33 := hF 12 _ _ rfl rfl; have f45 := hF 0 _ _ rfl rfl; clear hF
              go_simp
              exact hK _ _ (Grow.refl _) rfl
            refine Plan.det 48 rfl (Grow.refl) ?_
            apply Exists.intro
            refine ⟨fun vs x hR hF K hK => ?_, ?_⟩
            · have f30 := hF 16 _ _ rfl rfl; have f46 := hF 0 _ _ rfl rfl; clear hF
              go_simp
              exact hK _ _ (Grow.refl _) rfl
            refine Plan.nil (fun vs x hR hF => ?_)
            have f0 := hF 47 _ _ rfl; have f1 := hF 46 _ _ rfl; have f2 := hF 45 _ _ rfl; have f3 := hF 44 _ _ rfl; have f4 := hF 43 _ _ rfl; have f5 := hF 42 _ _ rfl; have f6 := hF 41 _ _ rfl; have f7 := hF 40 _ _ rfl; have f8 := hF 39 _ _ rfl; have f9 := hF 38 _ _ rfl; have f10 := hF 37 _ _ rfl; have f11 := hF 36 _ _ rfl; have f12 := hF 35 _ _ rfl; have f13 := hF 34 _ _ rfl; have f14 := hF 33 _ _ rfl; have f15 := hF 32 _ _ rfl; have f16 := hF 31 _ _ rfl; have f17 := hF 30 _ _ rfl; have f18 := hF 29 _ _ rfl; have f19 := hF 28 _ _ rfl; have f20 := hF 27 _ _ rfl; have f21 := hF 26 _ _ rfl; have f22 := hF 25 _ _ rfl; have f23 := hF 24 _ _ rfl; have f24 := hF 23 _ _ rfl; have f25 := hF 22 _ _ rfl; have f26 := hF 21 _ _ rfl; have f27 := hF 20 _ _ rfl; have f28 := hF 19 _ _ rfl; have f29 := hF 18 _ _ rfl; have f30 := hF 17 _ _ rfl; have f31 := hF 16 _ _ rfl; have f32 := hF 15 _ _ rfl; have f33 := hF 14 _ _ rfl; have f34 := hF 13 _ _ rfl; have f35 := hF 12 _ _ rfl; have f36 := hF 11 _ _ rfl; have f37 := hF 10 _ _ rfl; have f38 := hF 9 _ _ rfl; have f39 := hF 8 _ _ rfl; have f40 := hF 7 _ _ rfl; have f41 := hF 6 _ _ rfl; have f42 := hF 5 _ _ rfl; have f43 := hF 4 _ _ rfl; have f44 := hF 3 _ _ rfl; have f45 := hF 2 _ _ rfl; have f46 := hF 1 _ _ rfl; have f47 := hF 0 _ _ rfl
            clear hF
            simp only [f0, f1, f2, f3, f4, f5, f6, f7, f8, f9, f10, f11, f12, f13, f14, f15, f16, f17, f18, f19, f20, f21, f22, f23, f24, f25, f26, f27, f28, f29, f30, f31, f32, f33, f34, f35, f36, f37, f38, f39, f40, f41, f42, f43, f44, f45, f46, f47]
            clear f0 f1 f2 f3 f4 f5 f6 f7 f8 f9 f10 f11 f12 f13 f14 f15 f16 f17 f18 f19 f20 f21 f22 f23 f24 f25 f26 f27 f28 f29 f30 f31 f32 f33 f34 f35 f36 f37 f38 f39 f40 f41 f42 f43 f44 f45 f46 f47
            simp only [List.drop_succ_cons, List.drop_zero]
            have HBX := hid (grow_below hR)
            clear HC HGR hR q0 q1
            have HL4 := hid (HL3.out.later HBX.out)
            have HC4 := hid (⟨(HBX.out.cell (p := ⟨b, 0 * 2, none⟩) HC0.out.2.2).trans HC0.out.1, (HBX.out.cell (p := ⟨b, 0 * 2 + 1, none⟩) HC0.out.2.2).trans HC0.out.2.1, HSQ.out.below HBX.out, HPW.out.below HBX.out⟩ : _ ∧ _ ∧ SpQ x _ _ ∧ PsQ _ x _ _)
            generalize x = w9 at HL4 HC4 HBX ⊢
            have p0 := HC4.out.1
            have p1 := HC4.out.2.1
            go_wp2_with fail
            generalize decide (u1 < f) = dd1
            generalize decide (s.size < u1) = dd2
            skip
            go_loopw [8] (fun v wr => ∃ k : Nat, k ≤ gl ∧ v = .int .i64 k ∧ Hid (Below w9.heap.size w9 wr)) (fun v _ => gl - (intOf v).toNat)
            case atStart => exact ⟨0, Nat.zero_le _, rfl, Below.refl _ _⟩
            case round =>
              obtain ⟨k, hk, rfl, HB5⟩ := hrel
              obtain ⟨wx, hwx⟩ : ∃ wx : World, wx = wr := ⟨_, rfl⟩
              rw [← hwx] at HB5
              subst hwx
              have HL5 := hid (HL4.out.later HB5.out)
              have hbw9 : b < w9.heap.size := Nat.lt_of_lt_of_le HC0.out.2.2 HBX.out.size
              have HC5 := hid (⟨(HB5.out.cell (p := ⟨b, 0 * 2, none⟩) hbw9).trans HC4.out.1, (HB5.out.cell (p := ⟨b, 0 * 2 + 1, none⟩) hbw9).trans HC4.out.2.1, HC4.out.2.2.1.below HB5.out, HC4.out.2.2.2.below HB5.out⟩ : _ ∧ _ ∧ SpQ wx _ _ ∧ PsQ _ wx _ _)
              have HBL5 := hid (Nat.lt_of_lt_of_le hbw9 HB5.out.size)
              clear p0 p1 hbw9
              have p0 := HC5.out.1
              have p1 := HC5.out.2.1
              have q1 := HL5.out.2.1.three9
              by_cases hlk : k < gl
              · have hlkI : (k : Int) < (gl : Int) := by omega
                obtain ⟨a5, c5, e5, hsp⟩ := HC5.out.2.2.1
                have hne : u2 ≠ [] := by intro e; rw [HGL.out, e] at hlk; simp at hlk
                obtain ⟨bs, more, rfl5, hrs⟩ := hsp.resolve_left hne
                injection e5 with e6 e7 e8
                subst e6; subst e8; subst rfl5
                obtain ⟨y, hy⟩ : ∃ y, u2[k]? = some y := by
                  rw [HGL.out] at hlk
                  exact ⟨u2[k], List.getElem?_eq_getElem hlk⟩
                obtain ⟨y1, y2⟩ := y
                have hyc := spc_get u2 k (y1, y2) hy
                have hsl := spc_length u2
                have hkk : 2 * k + 1 < (spc u2).length := (List.getElem?_eq_some_iff.1 hyc.2).1
                have r0 : wx.cell? ⟨bs, k * 2, none⟩ = some (.int .i64 y1) := by rw [hrs.cell, Nat.mul_comm, List.getElem?_append_left (by omega)]; exact hyc.1
                have r1 : wx.cell? ⟨bs, k * 2 + 1, none⟩ = some (.int .i64 y2) := by rw [hrs.cell, Nat.mul_comm, List.getElem?_append_left (by omega)]; exact hyc.2
                have hyg := HU.out.1 (y1, y2) (List.mem_of_getElem? hy)
                have HYG := hid hyg
                clear e7 hy hyc hsl hkk hrs hsp hne hyg
                have hal := (Below.refl wx.heap.size wx).alloc (Nat.le_refl _) (.cells #[.int .i64 y1, .int .i64 y2] 46)
                have HWY : Hid (Row (wx.alloc (.cells #[.int .i64 y1, .int .i64 y2] 46)) wx.heap.size [.int .i64 y1, .int .i64 y2] 46 ∧ Below w9.heap.size w9 (wx.alloc (.cells #[.int .i64 y1, .int .i64 y2] 46))) := ⟨Row.new rfl, HB5.out.trans (hal.mono HB5.out.size)⟩
                have HYC := hid (⟨(HL5.out.later hal).2.1.three9, (hal.cell (p := ⟨b, 0 * 2, none⟩) HBL5.out).trans HC5.out.1⟩ : _ ∧ _)
                clear hal
                go_upto_region 15 with fail
                generalize wx.alloc (.cells #[.int .i64 y1, .int .i64 y2] 46) = wy at HWY HYC ⊢
                generalize wx.heap.size = bY at HWY ⊢
                have r2 : (wy.cell? ⟨bY, 0, none⟩ = some (.int .i64 y1) ∧ wy.cell? ⟨bY, 1, none⟩ = some (.int .i64 y2)) := ⟨HWY.out.1.cell 0, HWY.out.1.cell 1⟩
                have q2 := HYC.out.1
                have r3 := HYC.out.2
                clear p0 p1 q1 r0 r1
                by_cases hyn : (y1, y2) = (-1, -1)
                · injection hyn with hy1 hy2
                  subst hy1; subst hy2
                  go_wp2_with fail
                  go_quiet (fail)
                  have HBZ : Hid (Below w9.heap.size w9 (wy.drewN nq)) := HWY.out.2.trans ((below_drewN (Below.refl _ _) nq).mono HWY.out.2.size)
                  generalize wy.drewN nq = z at HBZ ⊢
                  go_wp2_with fail
                  refine ⟨⟨k + 1, by omega, by go_num, HBZ.out⟩, ?_⟩
                  simp [intOf]
                  omega
                · have hg := HYG.out.resolve_left hyn
                  dsimp only at hg
                  obtain ⟨g5, g6, g7⟩ := hg
                  have hy1 : ¬ y1 = -1 := by omega
                  go_wp2_with fail
                  go_quiet (fail)
                  have HBZ : Hid (Below w9.heap.size w9 (wy.drewN nq)) := HWY.out.2.trans ((below_drewN (Below.refl _ _) nq).mono HWY.out.2.size)
                  generalize wy.drewN nq = z at HBZ ⊢
                  go_wp2_with fail
                  refine ⟨⟨k + 1, by omega, by go_num, HBZ.out⟩, ?_⟩
                  simp [intOf]
                  omega
              · have hlkI : ¬ (k : Int) < (gl : Int) := by omega
                go_wp2_with fail
                clear hk hlk hlkI p0 p1 q1
                go_loopw [10] (fun v wr => ∃ k : Nat, k ≤ 0 ∧ v = .int .i64 k ∧ Hid (Below wx.heap.size wx wr)) (fun v _ => 0 - (intOf v).toNat)
                case atStart => exact ⟨0, Nat.zero_le _, rfl, Below.refl _ _⟩
                case round =>
                  obtain ⟨k, hk, rfl, HB6⟩ := hrel
                  obtain rfl : k = 0 := by omega
                  have HZE : Hid (Below w2.heap.size w2 wr) := (((HB.out.trans (HBX.out.mono HB.out.size)).trans (HB5.out.mono (HB.out.trans (HBX.out.mono HB.out.size)).size)).trans (HB6.out.mono ((HB.out.trans (HBX.out.mono HB.out.size)).trans (HB5.out.mono (HB.out.trans (HBX.out.mono HB.out.size)).size)).size))
                  go_wp2_with fail
                  refine ⟨⟨1, by omega, by go_num, HZE.out⟩, ?_⟩
                  simp [intOf]
                  omega
          · -- V
            obtain ⟨hjw, hjn, uu0, HP0, hu0, hu1⟩ := prev9 HN.out HG.out HPW.out HQ.out hlt hn4
            have hjI : 0 ≤ (j : Int) + 1 ∧ (j : Int) + 1 < (n : Int) := by omega
            have HC := hid (fun (y : World) (hy : Grow wo.drew y) => (⟨(HL3.out.1.below (grow_below hy) HL3.out.1.lt).c9, (HL3.out.2.1.below (grow_below hy) HL3.out.2.1.lt).three9, ((grow_below hy).cell (p := ⟨b, (j + 1) * 2, none⟩) HC0.out.2.2).trans HC0.out.1, ((grow_below hy).cell (p := ⟨b, (j + 1) * 2 + 1, none⟩) HC0.out.2.2).trans HC0.out.2.1, ((grow_below hy).cell (p := ⟨b, j * 2, none⟩) HC0.out.2.2).trans HP0⟩ : _ ∧ _ ∧ _ ∧ _ ∧ _))
            go_wp2_with fail
            refine wp_region_inv 48 (Grow) (by kernel_rfl) (by kernel_rfl) (Grow.refl) (fun _ _ _ => Grow.trans) ?_
            simp only [fill, dstOf, Act.put, List.take_succ_cons, List.take_zero, List.getElem?_toArray, List.getElem?_cons_zero, List.getElem?_cons_succ, Option.bind_some, List.setIfInBounds_toArray, List.set_cons_zero, List.set_cons_succ]
            refine Plan.det 1 rfl (Grow.refl) ?_
            apply Exists.intro
            refine ⟨fun vs x hR hF K hK => ?_, ?_⟩
            · clear hF
              go_simp
              exact hK _ _ (Grow.refl _) rfl
            refine Plan.det 2 rfl (Grow.refl) ?_
            apply Exists.intro
            refine ⟨fun vs x hR hF K hK => ?_, ?_⟩
            · clear hF
              go_simp
              exact hK _ _ (Grow.refl _) rfl
            refine Plan.det 3 rfl (Grow.refl) ?_
            apply Exists.intro
            refine ⟨fun vs x hR hF K hK => ?_, ?_⟩
            · have f0 := hF 1 _ _ rfl rfl; have f1 := hF 0 _ _ rfl rfl; clear hF
              go_simp
              exact hK _ _ (Grow.refl _) rfl
            refine Plan.det 4 rfl (Grow.refl) ?_
            apply Exists.intro
            refine ⟨fun vs x hR hF K hK => ?_, ?_⟩
            · have f2 := hF 0 _ _ rfl rfl; clear hF
              go_simp
              exact hK _ _ (Grow.refl _) rfl
            refine Plan.det 5 rfl (Grow.refl) ?_
            apply Exists.intro
            refine ⟨fun vs x hR hF K hK => ?_, ?_⟩
            · have f3 := hF 0 _ _ rfl rfl; have hc := HC.out x hR; clear hF
              go_simp
              exact hK _ _ (Grow.refl _) rfl
            refine Plan.det 6 rfl (Grow.refl) ?_
            apply Exists.intro
            refine ⟨fun vs x hR hF K hK => ?_, ?_⟩
            · clear hF
              go_simp
              exact hK _ _ (Grow.refl _) rfl
            refine Plan.det 7 rfl (Grow.refl) ?_
            apply Exists.intro
            refine ⟨fun vs x hR hF K hK => ?_, ?_⟩
            · have f5 := hF 0 _ _ rfl rfl; have hc := HC.out x hR; clear hF
              go_simp
              exact hK _ _ (Grow.refl _) rfl
            refine Plan.det 8 rfl (Grow.refl) ?_
            apply Exists.intro
            refine ⟨fun vs x hR hF K hK => ?_, ?_⟩
            · have f4 := hF 2 _ _ rfl rfl; have f6 := hF 0 _ _ rfl rfl; clear hF
              go_simp
              exact hK _ _ (Grow.refl _) rfl
            refine Plan.det 9 rfl (Grow.refl) ?_
            apply Exists.intro
            refine ⟨fun vs x hR hF K hK => ?_, ?_⟩
            · have f7 := hF 0 _ _ rfl rfl; clear hF
              go_simp
              exact hK _ _ (Grow.refl _) rfl
            refine Plan.det 10 rfl (Grow.refl) ?_
            apply Exists.intro
            refine ⟨fun vs x hR hF K hK => ?_, ?_⟩
            · have f8 := hF 0 _ _ rfl rfl; clear hF
              go_simp
              exact hK _ _ (Grow.refl _) rfl
            refine Plan.det 11 rfl (Grow.refl) ?_
            apply Exists.intro
            refine ⟨fun vs x hR hF K hK => ?_, ?_⟩
            · have f8 := hF 1 _ _ rfl rfl; clear hF
              go_simp
              exact hK _ _ (Grow.refl _) rfl
            refine Plan.det 12 rfl (Grow.refl) ?_
            apply Exists.intro
            refine ⟨fun vs x hR hF K hK => ?_, ?_⟩
            · have f8 := hF 2 _ _ rfl rfl; have f9 := hF 1 _ _ rfl rfl; have f10 := hF 0 _ _ rfl rfl; clear hF
              go_simp
              exact hK _ _ (Grow.refl _) rfl
            refine Plan.det 13 rfl (Grow.refl) ?_
            apply Exists.intro
            refine ⟨fun vs x hR hF K hK => ?_, ?_⟩
            · have f8 := hF 3 _ _ rfl rfl; have f11 := hF 0 _ _ rfl rfl; clear hF
              go_simp
              exact hK _ _ (Grow.refl _) rfl
            refine Plan.det 14 rfl (Grow.refl) ?_
            apply Exists.intro
            refine ⟨fun vs x hR hF K hK => ?_, ?_⟩
            · have f8 := hF 4 _ _ rfl rfl; have f12 := hF 0 _ _ rfl rfl; have hc := HC.out x hR; clear hF
              go_simp
              exact hK _ _ (Grow.refl _) rfl
            refine Plan.det 15 rfl (Grow.refl) ?_
            apply Exists.intro
            refine ⟨fun vs x hR hF K hK => ?_, ?_⟩
            · have f8 := hF 5 _ _ rfl rfl; clear hF
              go_simp
              exact hK _ _ (Grow.refl _) rfl
            refine Plan.det 16 rfl (Grow.refl) ?_
            apply Exists.intro
            refine ⟨fun vs x hR hF K hK => ?_, ?_⟩
            · have f8 := hF 6 _ _ rfl rfl; have f14 := hF 0 _ _ rfl rfl; have hc := HC.out x hR; clear hF
              go_simp
              exact hK _ _ (Grow.refl _) rfl
            refine Plan.det 17 rfl (Grow.refl) ?_
            apply Exists.intro
            refine ⟨fun vs x hR hF K hK => ?_, ?_⟩
            · have f8 := hF 7 _ _ rfl rfl; have f15 := hF 0 _ _ rfl rfl; clear hF
              go_simp
              exact hK _ _ (Grow.refl _) rfl
            refine Plan.det 18 rfl (Grow.refl) ?_
            apply Exists.intro
            refine ⟨fun vs x hR hF K hK => ?_, ?_⟩
            · have f8 := hF 8 _ _ rfl rfl; have f13 := hF 3 _ _ rfl rfl; have f16 := hF 0 _ _ rfl rfl; clear hF
              go_simp
              exact hK _ _ (Grow.refl _) rfl
            refine Plan.det 19 rfl (Grow.refl) ?_
            apply Exists.intro
            refine ⟨fun vs x hR hF K hK => ?_, ?_⟩
            · have f8 := hF 9 _ _ rfl rfl; have f17 := hF 0 _ _ rfl rfl; clear hF
              go_simp
              exact hK _ _ (Grow.refl _) rfl
            refine Plan.det 20 rfl (Grow.refl) ?_
            apply Exists.intro
            refine ⟨fun vs x hR hF K hK => ?_, ?_⟩
            · have f8 := hF 10 _ _ rfl rfl; have f18 := hF 0 _ _ rfl rfl; clear hF
              go_simp
              exact hK _ _ (Grow.refl _) rfl
            refine Plan.det 21 rfl (Grow.refl) ?_
            apply Exists.intro
            refine ⟨fun vs x hR hF K hK => ?_, ?_⟩
            · have f19 := hF 0 _ _ rfl rfl; clear hF
              go_simp
              exact hK _ _ (Grow.refl _) rfl
            refine Plan.det 22 rfl (Grow.refl) ?_
            apply Exists.intro
            refine ⟨fun vs x hR hF K hK => ?_, ?_⟩
            · have f19 := hF 1 _ _ rfl rfl; clear hF
              go_simp
              exact hK _ _ (Grow.refl _) rfl
            refine Plan.det 23 rfl (Grow.refl) ?_
            apply Exists.intro
            refine ⟨fun vs x hR hF K hK => ?_, ?_⟩
            · have f19 := hF 2 _ _ rfl rfl; have f20 := hF 1 _ _ rfl rfl; have f21 := hF 0 _ _ rfl rfl; clear hF
              go_simp
              exact hK _ _ (Grow.refl _) rfl
            refine Plan.det 24 rfl (Grow.refl) ?_
            apply Exists.intro
            refine ⟨fun vs x hR hF K hK => ?_, ?_⟩
            · have f19 := hF 3 _ _ rfl rfl; have f22 := hF 0 _ _ rfl rfl; clear hF
              go_simp
              exact hK _ _ (Grow.refl _) rfl
            refine Plan.det 25 rfl (Grow.refl) ?_
            apply Exists.intro
            refine ⟨fun vs x hR hF K hK => ?_, ?_⟩
            · have f19 := hF 4 _ _ rfl rfl; have f23 := hF 0 _ _ rfl rfl; have hc := HC.out x hR; clear hF
              go_simp
              exact hK _ _ (Grow.refl _) rfl
            refine Plan.det 26 rfl (Grow.refl) ?_
            apply Exists.intro
            refine ⟨fun vs x hR hF K hK => ?_, ?_⟩
            · have f19 := hF 5 _ _ rfl rfl; have f24 := hF 0 _ _ rfl rfl; clear hF
              go_simp
              exact hK _ _ (Grow.refl _) rfl
            refine Plan.det 27 rfl (Grow.refl) ?_
            apply Exists.intro
            refine ⟨fun vs x hR hF K hK => ?_, ?_⟩
            · have f19 := hF 6 _ _ rfl rfl; have hc := HC.out x hR; clear hF
              go_simp
              exact hK _ _ (Grow.refl _) rfl
            refine Plan.det 28 rfl (Grow.refl) ?_
            apply Exists.intro
            refine ⟨fun vs x hR hF K hK => ?_, ?_⟩
            · have f19 := hF 7 _ _ rfl rfl; have f26 := hF 0 _ _ rfl rfl; clear hF
              go_simp
              refine (HGR.out x hR).mono ?_
              rintro e x1 ⟨rfl, hbe⟩
              exact ⟨_, rfl, hK _ _ hbe rfl⟩
            refine Plan.det 29 rfl (Grow.refl) ?_
            apply Exists.intro
            refine ⟨fun vs x hR hF K hK => ?_, ?_⟩
            · have f19 := hF 8 _ _ rfl rfl; have f25 := hF 2 _ _ rfl rfl; have f27 := hF 0 _ _ rfl rfl; clear hF
              go_simp
              exact hK _ _ (Grow.refl _) rfl
            refine Plan.det 30 rfl (Grow.refl) ?_
            apply Exists.intro
            refine ⟨fun vs x hR hF K hK => ?_, ?_⟩
            · have f19 := hF 9 _ _ rfl rfl; have f28 := hF 0 _ _ rfl rfl; clear hF
              go_simp
              exact hK _ _ (Grow.refl _) rfl
            refine Plan.det 31 rfl (Grow.refl) ?_
            apply Exists.intro
            refine ⟨fun vs x hR hF K hK => ?_, ?_⟩
            · have f27 := hF 2 _ _ rfl rfl; have f29 := hF 0 _ _ rfl rfl; clear hF
              go_simp
              exact hK _ _ (Grow.refl _) rfl
            refine Plan.det 32 rfl (Grow.refl) ?_
            apply Exists.intro
            refine ⟨fun vs x hR hF K hK => ?_, ?_⟩
            · have f30 := hF 0 _ _ rfl rfl; clear hF
              go_simp
              exact hK _ _ (Grow.refl _) rfl
            refine Plan.det 33 rfl (Grow.refl) ?_
            apply Exists.intro
            refine ⟨fun vs x hR hF K hK => ?_, ?_⟩
            · have f30 := hF 1 _ _ rfl rfl; have f31 := hF 0 _ _ rfl rfl; clear hF
              go_simp
              exact hK _ _ (Grow.refl _) rfl
            refine Plan.det 34 rfl (Grow.refl) ?_
            apply Exists.intro
            refine ⟨fun vs x hR hF K hK => ?_, ?_⟩
            · have f30 := hF 2 _ _ rfl rfl; have f32 := hF 0 _ _ rfl rfl; clear hF
              go_simp
              exact hK _ _ (Grow.refl _) rfl
            refine Plan.det 35 rfl (Grow.refl) ?_
            apply Exists.intro
            refine ⟨fun vs x hR hF K hK => ?_, ?_⟩
            · have f33 := hF 0 _ _ rfl rfl; clear hF
              go_simp
              exact hK _ _ (Grow.refl _) rfl
            refine Plan.det 36 rfl (Grow.refl) ?_
            apply Exists.intro
            refine ⟨fun vs x hR hF K hK => ?_, ?_⟩
            · have f33 := hF 1 _ _ rfl rfl; clear hF
              go_simp
              exact hK _ _ (Grow.refl _) rfl
            refine Plan.det 37 rfl (Grow.refl) ?_
            apply Exists.intro
            refine ⟨fun vs x hR hF K hK => ?_, ?_⟩
            · have f33 := hF 2 _ _ rfl rfl; have f35 := hF 0 _ _ rfl rfl; clear hF
              go_simp
              exact hK _ _ (Grow.refl _) rfl
            refine Plan.det 38 rfl (Grow.refl) ?_
            apply Exists.intro
            refine ⟨fun vs x hR hF K hK => ?_, ?_⟩
            · have f33 := hF 3 _ _ rfl rfl; have f34 := hF 2 _ _ rfl rfl; have f36 := hF 0 _ _ rfl rfl; clear hF
              go_simp
              exact hK _ _ (Grow.refl _) rfl
            refine Plan.det 39 rfl (Grow.refl) ?_
            apply Exists.intro
            refine ⟨fun vs x hR hF K hK => ?_, ?_⟩
            · have f33 := hF 4 _ _ rfl rfl; have f37 := hF 0 _ _ rfl rfl; clear hF
              go_simp
              exact hK _ _ (Grow.refl _) rfl
            refine Plan.det 40 rfl (Grow.refl) ?_
            apply Exists.intro
            refine ⟨fun vs x hR hF K hK => ?_, ?_⟩
            · have f33 := hF 5 _ _ rfl rfl; have f38 := hF 0 _ _ rfl rfl; have hc := HC.out x hR; clear hF
              go_simp
              exact hK _ _ (Grow.refl _) rfl
            refine Plan.det 41 rfl (Grow.refl) ?_
            apply Exists.intro
            refine ⟨fun vs x hR hF K hK => ?_, ?_⟩
            · have f33 := hF 6 _ _ rfl rfl; clear hF
              go_simp
              exact hK _ _ (Grow.refl _) rfl
            refine Plan.det 42 rfl (Grow.refl) ?_
            apply Exists.intro
            refine ⟨fun vs x hR hF K hK => ?_, ?_⟩
            · have f33 := hF 7 _ _ rfl rfl; clear hF
              go_simp
              exact hK _ _ (Grow.refl _) rfl
            refine Plan.det 43 rfl (Grow.refl) ?_
            apply Exists.intro
            refine ⟨fun vs x hR hF K hK => ?_, ?_⟩
            · have f33 := hF 8 _ _ rfl rfl; have f40 := hF 1 _ _ rfl rfl; have f41 := hF 0 _ _ rfl rfl; clear hF
              go_simp
              exact hK _ _ (Grow.refl _) rfl
            refine Plan.det 44 rfl (Grow.refl) ?_
            apply Exists.intro
            refine ⟨fun vs x hR hF K hK => ?_, ?_⟩
            · have f33 := hF 9 _ _ rfl rfl; have f42 := hF 0 _ _ rfl rfl; clear hF
              go_simp
              exact hK _ _ (Grow.refl _) rfl
            refine Plan.det 45 rfl (Grow.refl) ?_
            apply Exists.intro
            refine ⟨fun vs x hR hF K hK => ?_, ?_⟩
            · have f33 := hF 10 _ _ rfl rfl; have f43 := hF 0 _ _ rfl rfl; have hc := HC.out x hR; clear hF
              go_simp
              exact hK _ _ (Grow.refl _) rfl
            refine Plan.det 46 rfl (Grow.refl) ?_
            apply Exists.intro
            refine ⟨fun vs x hR hF K hK => ?_, ?_⟩
            · have f33 := hF 11 _ _ rfl rfl; have f39 := hF 5 _ _ rfl rfl; have f44 := hF 0 _ _ rfl rfl; clear hF
              go_simp
              exact hK _ _ (Grow.refl _) rfl
            refine Plan.det 47 rfl (Grow.refl) ?_
            apply Exists.intro
            refine ⟨fun vs x hR hF K hK => ?_, ?_⟩
            · have f30 := hF 15 _ _ rfl rfl; have f33 := hF 12 _ _ rfl rfl; have f45 := hF 0 _ _ rfl rfl; clear hF
              go_simp
              exact hK _ _ (Grow.refl _) rfl
            refine Plan.det 48 rfl (Grow.refl) ?_
            apply Exists.intro
            refine ⟨fun vs x hR hF K hK => ?_, ?_⟩
            · have f30 := hF 16 _ _ rfl rfl; have f46 := hF 0 _ _ rfl rfl; clear hF
              go_simp
              exact hK _ _ (Grow.refl _) rfl
            refine Plan.nil (fun vs x hR hF => ?_)
            have f0 := hF 47 _ _ rfl; have f1 := hF 46 _ _ rfl; have f2 := hF 45 _ _ rfl; have f3 := hF 44 _ _ rfl; have f4 := hF 43 _ _ rfl; have f5 := hF 42 _ _ rfl; have f6 := hF 41 _ _ rfl; have f7 := hF 40 _ _ rfl; have f8 := hF 39 _ _ rfl; have f9 := hF 38 _ _ rfl; have f10 := hF 37 _ _ rfl; have f11 := hF 36 _ _ rfl; have f12 := hF 35 _ _ rfl; have f13 := hF 34 _ _ rfl; have f14 := hF 33 _ _ rfl; have f15 := hF 32 _ _ rfl; have f16 := hF 31 _ _ rfl; have f17 := hF 30 _ _ rfl; have f18 := hF 29 _ _ rfl; have f19 := hF 28 _ _ rfl; have f20 := hF 27 _ _ rfl; have f21 := hF 26 _ _ rfl; have f22 := hF 25 _ _ rfl; have f23 := hF 24 _ _ rfl; have f24 := hF 23 _ _ rfl; have f25 := hF 22 _ _ rfl; have f26 := hF 21 _ _ rfl; have f27 := hF 20 _ _ rfl; have f28 := hF 19 _ _ rfl; have f29 := hF 18 _ _ rfl; have f30 := hF 17 _ _ rfl; have f31 := hF 16 _ _ rfl; have f32 := hF 15 _ _ rfl; have f33 := hF 14 _ _ rfl; have f34 := hF 13 _ _ rfl; have f35 := hF 12 _ _ rfl; have f36 := hF 11 _ _ rfl; have f37 := hF 10 _ _ rfl; have f38 := hF 9 _ _ rfl; have f39 := hF 8 _ _ rfl; have f40 := hF 7 _ _ rfl; have f41 := hF 6 _ _ rfl; have f42 := hF 5 _ _ rfl; have f43 := hF 4 _ _ rfl; have f44 := hF 3 _ _ rfl; have f45 := hF 2 _ _ rfl; have f46 := hF 1 _ _ rfl; have f47 := hF 0 _ _ rfl
            clear hF
            simp only [f0, f1, f2, f3, f4, f5, f6, f7, f8, f9, f10, f11, f12, f13, f14, f15, f16, f17, f18, f19, f20, f21, f22, f23, f24, f25, f26, f27, f28, f29, f30, f31, f32, f33, f34, f35, f36, f37, f38, f39, f40, f41, f42, f43, f44, f45, f46, f47]
            clear f0 f1 f2 f3 f4 f5 f6 f7 f8 f9 f10 f11 f12 f13 f14 f15 f16 f17 f18 f19 f20 f21 f22 f23 f24 f25 f26 f27 f28 f29 f30 f31 f32 f33 f34 f35 f36 f37 f38 f39 f40 f41 f42 f43 f44 f45 f46 f47
            simp only [List.drop_succ_cons, List.drop_zero]
            have HBX := hid (grow_below hR)
            clear HC HGR hR q0 q1
            have HL4 := hid (HL3.out.later HBX.out)
            have HC4 := hid (⟨(HBX.out.cell (p := ⟨b, (j + 1) * 2, none⟩) HC0.out.2.2).trans HC0.out.1, (HBX.out.cell (p := ⟨b, (j + 1) * 2 + 1, none⟩) HC0.out.2.2).trans HC0.out.2.1, HSQ.out.below HBX.out, HPW.out.below HBX.out⟩ : _ ∧ _ ∧ SpQ x _ _ ∧ PsQ _ x _ _)
            generalize x = w9 at HL4 HC4 HBX ⊢
            have p0 := HC4.out.1
            have p1 := HC4.out.2.1
            go_wp2_with fail
            generalize decide (u1 < f) = dd1
            generalize decide (s.size < u1) = dd2
            generalize decide (uu0 < u1) = dd3
            go_loopw [8] (fun v wr => ∃ k : Nat, k ≤ gl ∧ v = .int .i64 k ∧ Hid (Below w9.heap.size w9 wr)) (fun v _ => gl - (intOf v).toNat)
            case atStart => exact ⟨0, Nat.zero_le _, rfl, Below.refl _ _⟩
            case round =>
              obtain ⟨k, hk, rfl, HB5⟩ := hrel
              obtain ⟨wx, hwx⟩ : ∃ wx : World, wx = wr := ⟨_, rfl⟩
              rw [← hwx] at HB5
              subst hwx
              have HL5 := hid (HL4.out.later HB5.out)
              have hbw9 : b < w9.heap.size := Nat.lt_of_lt_of_le HC0.out.2.2 HBX.out.size
              have HC5 := hid (⟨(HB5.out.cell (p := ⟨b, (j + 1) * 2, none⟩) hbw9).trans HC4.out.1, (HB5.out.cell (p := ⟨b, (j + 1) * 2 + 1, none⟩) hbw9).trans HC4.out.2.1, HC4.out.2.2.1.below HB5.out, HC4.out.2.2.2.below HB5.out⟩ : _ ∧ _ ∧ SpQ wx _ _ ∧ PsQ _ wx _ _)
              have HBL5 := hid (Nat.lt_of_lt_of_le hbw9 HB5.out.size)
              clear p0 p1 hbw9
              have p0 := HC5.out.1
              have p1 := HC5.out.2.1
              have q1 := HL5.out.2.1.three9
              by_cases hlk : k < gl
              · have hlkI : (k : Int) < (gl : Int) := by omega
                obtain ⟨a5, c5, e5, hsp⟩ := HC5.out.2.2.1
                have hne : u2 ≠ [] := by intro e; rw [HGL.out, e] at hlk; simp at hlk
                obtain ⟨bs, more, rfl5, hrs⟩ := hsp.resolve_left hne
                injection e5 with e6 e7 e8
                subst e6; subst e8; subst rfl5
                obtain ⟨y, hy⟩ : ∃ y, u2[k]? = some y := by
                  rw [HGL.out] at hlk
                  exact ⟨u2[k], List.getElem?_eq_getElem hlk⟩
                obtain ⟨y1, y2⟩ := y
                have hyc := spc_get u2 k (y1, y2) hy
                have hsl := spc_length u2
                have hkk : 2 * k + 1 < (spc u2).length := (List.getElem?_eq_some_iff.1 hyc.2).1
                have r0 : wx.cell? ⟨bs, k * 2, none⟩ = some (.int .i64 y1) := by rw [hrs.cell, Nat.mul_comm, List.getElem?_append_left (by omega)]; exact hyc.1
                have r1 : wx.cell? ⟨bs, k * 2 + 1, none⟩ = some (.int .i64 y2) := by rw [hrs.cell, Nat.mul_comm, List.getElem?_append_left (by omega)]; exact hyc.2
                have hyg := HU.out.1 (y1, y2) (List.mem_of_getElem? hy)
                have HYG := hid hyg
                clear e7 hy hyc hsl hkk hrs hsp hne hyg
                have hal := (Below.refl wx.heap.size wx).alloc (Nat.le_refl _) (.cells #[.int .i64 y1, .int .i64 y2] 46)
                have HWY : Hid (Row (wx.alloc (.cells #[.int .i64 y1, .int .i64 y2] 46)) wx.heap.size [.int .i64 y1, .int .i64 y2] 46 ∧ Below w9.heap.size w9 (wx.alloc (.cells #[.int .i64 y1, .int .i64 y2] 46))) := ⟨Row.new rfl, HB5.out.trans (hal.mono HB5.out.size)⟩
                have HYC := hid (⟨(HL5.out.later hal).2.1.three9, (hal.cell (p := ⟨b, (j + 1) * 2, none⟩) HBL5.out).trans HC5.out.1⟩ : _ ∧ _)
                clear hal
                go_upto_region 15 with fail
                generalize wx.alloc (.cells #[.int .i64 y1, .int .i64 y2] 46) = wy at HWY HYC ⊢
                generalize wx.heap.size = bY at HWY ⊢
                have r2 : (wy.cell? ⟨bY, 0, none⟩ = some (.int .i64 y1) ∧ wy.cell? ⟨bY, 1, none⟩ = some (.int .i64 y2)) := ⟨HWY.out.1.cell 0, HWY.out.1.cell 1⟩
                have q2 := HYC.out.1
                have r3 := HYC.out.2
                clear p0 p1 q1 r0 r1
                by_cases hyn : (y1, y2) = (-1, -1)
                · injection hyn with hy1 hy2
                  subst hy1; subst hy2
                  go_wp2_with fail
                  go_quiet (fail)
                  have HBZ : Hid (Below w9.heap.size w9 (wy.drewN nq)) := HWY.out.2.trans ((below_drewN (Below.refl _ _) nq).mono HWY.out.2.size)
                  generalize wy.drewN nq = z at HBZ ⊢
                  go_wp2_with fail
                  refine ⟨⟨k + 1, by omega, by go_num, HBZ.out⟩, ?_⟩
                  simp [intOf]
                  omega
                · have hg := HYG.out.resolve_left hyn
                  dsimp only at hg
                  obtain ⟨g5, g6, g7⟩ := hg
                  have hy1 : ¬ y1 = -1 := by omega
                  go_wp2_with fail
                  go_quiet (fail)
                  have HBZ : Hid (Below w9.heap.size w9 (wy.drewN nq)) := HWY.out.2.trans ((below_drewN (Below.refl _ _) nq).mono HWY.out.2.size)
                  generalize wy.drewN nq = z at HBZ ⊢
                  go_wp2_with fail
                  refine ⟨⟨k + 1, by omega, by go_num, HBZ.out⟩, ?_⟩
                  simp [intOf]
                  omega
              · have hlkI : ¬ (k : Int) < (gl : Int) := by omega
                go_wp2_with fail
                clear hk hlk hlkI p0 p1 q1
                go_loopw [10] (fun v wr => ∃ k : Nat, k ≤ (j + 1) ∧ v = .int .i64 k ∧ Hid (Below wx.heap.size wx wr)) (fun v _ => (j + 1) - (intOf v).toNat)
                case atStart => exact ⟨0, Nat.zero_le _, rfl, Below.refl _ _⟩
                case round =>
                  obtain ⟨k, hk, rfl, HB6⟩ := hrel
                  by_cases hlk : k < j + 1
                  · have hlkI : (k : Int) < (j : Int) + 1 := by omega
                    have hkn : (k : Int) < (n : Int) := by omega
                    have HPW6 := hid (HC5.out.2.2.2.below HB6.out)
                    obtain ⟨b7, cc7, v1, v2, sa7, sc7, hq7, ev7, hb7, -, -, p7, p8, hsq7⟩ := HPW6.out.get (k := k) (by rw [← HN.out]; omega)
                    injection ev7 with e1 e2 e3
                    injection e1 with e1
                    injection e1 with e1
                    subst e1; subst e3
                    have hdq := HG.out.desc hlk hq7 HQ.out
                    have h97 : v2.length ≤ 9 := HSPN.out (v1, v2) (List.mem_of_getElem? hq7)
                    have hbx : b < wx.heap.size := HBL5.out
                    have p9 := (HB6.out.cell (p := ⟨b, (j + 1) * 2, none⟩) hbx).trans HC5.out.1
                    have p10 := (HB6.out.cell (p := ⟨b, (j + 1) * 2 + 1, none⟩) hbx).trans HC5.out.2.1
                    have HSQ6 := hid (⟨HC5.out.2.2.1.below HB6.out, hsq7⟩ : SpQ wr _ _ ∧ SpQ wr _ _)
                    clear e2 hq7 hsq7
                    by_cases hev : u1 = v1
                    · subst hev
                      have hnv : ¬ u2 = v2 := fun e => hdq.2 (by rw [e])
                      have HC0b := hid (⟨p7, p8, p9, p10, hb7⟩ : _ ∧ _ ∧ _ ∧ _ ∧ _)
                      have HC := hid (fun (y : World) (hy : Grow wr.drew y) => (⟨((grow_below hy).cell (p := ⟨b, k * 2, none⟩) HC0b.out.2.2.2.2).trans HC0b.out.1, ((grow_below hy).cell (p := ⟨b, k * 2 + 1, none⟩) HC0b.out.2.2.2.2).trans HC0b.out.2.1, ((grow_below hy).cell (p := ⟨b, (j + 1) * 2, none⟩) HC0b.out.2.2.2.2).trans HC0b.out.2.2.1, ((grow_below hy).cell (p := ⟨b, (j + 1) * 2 + 1, none⟩) HC0b.out.2.2.2.2).trans HC0b.out.2.2.2.1⟩ : _ ∧ _ ∧ _ ∧ _))
                      have HSS : Hid (∀ y : World, Grow wr.drew y → Calls Tryd.prog 21 #[.slice sa gl sc, .slice sa7 v2.length sc7] y fun e w' => e = .returned (.bool false) ∧ Below y.heap.size y w') := fun y hy => (SameSpansQ_any y _ _ u2 v2 (HSQ6.out.1.below (grow_below hy)) (HSQ6.out.2.below (grow_below hy)) (by rw [← HGL.out]; omega) (by omega)).mono fun e w' h => ⟨by rw [h.1, decide_eq_false hnv], h.2⟩
                      clear hdq hnv
                      go_wp2_with fail
                      refine wp_region_inv 24 (Grow) (by kernel_rfl) (by kernel_rfl) (Grow.refl) (fun _ _ _ => Grow.trans) ?_
                      simp only [fill, dstOf, Act.put, List.take_succ_cons, List.take_zero, List.getElem?_toArray, List.getElem?_cons_zero, List.getElem?_cons_succ, Option.bind_some, List.setIfInBounds_toArray, List.set_cons_zero, List.set_cons_succ]
                      refine Plan.det 1 rfl (Grow.refl) ?_
                      apply Exists.intro
                      refine ⟨fun vs x hR hF K hK => ?_, ?_⟩
                      · clear hF
                        go_simp
                        exact hK _ _ (Grow.refl _) rfl
                      refine Plan.det 2 rfl (Grow.refl) ?_
                      apply Exists.intro
                      refine ⟨fun vs x hR hF K hK => ?_, ?_⟩
                      · clear hF
                        go_simp
                        exact hK _ _ (Grow.refl _) rfl
                      refine Plan.det 3 rfl (Grow.refl) ?_
                      apply Exists.intro
                      refine ⟨fun vs x hR hF K hK => ?_, ?_⟩
                      · have f0 := hF 1 _ _ rfl rfl; have f1 := hF 0 _ _ rfl rfl; clear hF
                        go_simp
                        exact hK _ _ (Grow.refl _) rfl
                      refine Plan.det 4 rfl (Grow.refl) ?_
                      apply Exists.intro
                      refine ⟨fun vs x hR hF K hK => ?_, ?_⟩
                      · have f2 := hF 0 _ _ rfl rfl; clear hF
                        go_simp
                        exact hK _ _ (Grow.refl _) rfl
                      refine Plan.det 5 rfl (Grow.refl) ?_
                      apply Exists.intro
                      refine ⟨fun vs x hR hF K hK => ?_, ?_⟩
                      · have f3 := hF 0 _ _ rfl rfl; have hc := HC.out x hR; clear hF
                        go_simp
                        exact hK _ _ (Grow.refl _) rfl
                      refine Plan.det 6 rfl (Grow.refl) ?_
                      apply Exists.intro
                      refine ⟨fun vs x hR hF K hK => ?_, ?_⟩
                      · clear hF
                        go_simp
                        exact hK _ _ (Grow.refl _) rfl
                      refine Plan.det 7 rfl (Grow.refl) ?_
                      apply Exists.intro
                      refine ⟨fun vs x hR hF K hK => ?_, ?_⟩
                      · clear hF
                        go_simp
                        exact hK _ _ (Grow.refl _) rfl
                      refine Plan.det 8 rfl (Grow.refl) ?_
                      apply Exists.intro
                      refine ⟨fun vs x hR hF K hK => ?_, ?_⟩
                      · have f5 := hF 1 _ _ rfl rfl; have f6 := hF 0 _ _ rfl rfl; clear hF
                        go_simp
                        exact hK _ _ (Grow.refl _) rfl
                      refine Plan.det 9 rfl (Grow.refl) ?_
                      apply Exists.intro
                      refine ⟨fun vs x hR hF K hK => ?_, ?_⟩
                      · have f7 := hF 0 _ _ rfl rfl; clear hF
                        go_simp
                        exact hK _ _ (Grow.refl _) rfl
                      refine Plan.det 10 rfl (Grow.refl) ?_
                      apply Exists.intro
                      refine ⟨fun vs x hR hF K hK => ?_, ?_⟩
                      · have f8 := hF 0 _ _ rfl rfl; have hc := HC.out x hR; clear hF
                        go_simp
                        exact hK _ _ (Grow.refl _) rfl
                      refine Plan.det 11 rfl (Grow.refl) ?_
                      apply Exists.intro
                      refine ⟨fun vs x hR hF K hK => ?_, ?_⟩
                      · have f4 := hF 5 _ _ rfl rfl; have f9 := hF 0 _ _ rfl rfl; clear hF
                        go_simp
                        exact hK _ _ (Grow.refl _) rfl
                      refine Plan.det 12 rfl (Grow.refl) ?_
                      apply Exists.intro
                      refine ⟨fun vs x hR hF K hK => ?_, ?_⟩
                      · have f10 := hF 0 _ _ rfl rfl; clear hF
                        go_simp
                        exact hK _ _ (Grow.refl _) rfl
                      refine Plan.det 13 rfl (Grow.refl) ?_
                      apply Exists.intro
                      refine ⟨fun vs x hR hF K hK => ?_, ?_⟩
                      · have f11 := hF 0 _ _ rfl rfl; clear hF
                        go_simp
                        exact hK _ _ (Grow.refl _) rfl
                      refine Plan.det 14 rfl (Grow.refl) ?_
                      apply Exists.intro
                      refine ⟨fun vs x hR hF K hK => ?_, ?_⟩
                      · have f11 := hF 1 _ _ rfl rfl; clear hF
                        go_simp
                        exact hK _ _ (Grow.refl _) rfl
                      refine Plan.det 15 rfl (Grow.refl) ?_
                      apply Exists.intro
                      refine ⟨fun vs x hR hF K hK => ?_, ?_⟩
                      · have f11 := hF 2 _ _ rfl rfl; have f12 := hF 1 _ _ rfl rfl; have f13 := hF 0 _ _ rfl rfl; clear hF
                        go_simp
                        exact hK _ _ (Grow.refl _) rfl
                      refine Plan.det 16 rfl (Grow.refl) ?_
                      apply Exists.intro
                      refine ⟨fun vs x hR hF K hK => ?_, ?_⟩
                      · have f11 := hF 3 _ _ rfl rfl; have f14 := hF 0 _ _ rfl rfl; clear hF
                        go_simp
                        exact hK _ _ (Grow.refl _) rfl
                      refine Plan.det 17 rfl (Grow.refl) ?_
                      apply Exists.intro
                      refine ⟨fun vs x hR hF K hK => ?_, ?_⟩
                      · have f11 := hF 4 _ _ rfl rfl; have f15 := hF 0 _ _ rfl rfl; have hc := HC.out x hR; clear hF
                        go_simp
                        exact hK _ _ (Grow.refl _) rfl
                      refine Plan.det 18 rfl (Grow.refl) ?_
                      apply Exists.intro
                      refine ⟨fun vs x hR hF K hK => ?_, ?_⟩
                      · have f11 := hF 5 _ _ rfl rfl; clear hF
                        go_simp
                        exact hK _ _ (Grow.refl _) rfl
                      refine Plan.det 19 rfl (Grow.refl) ?_
                      apply Exists.intro
                      refine ⟨fun vs x hR hF K hK => ?_, ?_⟩
                      · have f11 := hF 6 _ _ rfl rfl; clear hF
                        go_simp
                        exact hK _ _ (Grow.refl _) rfl
                      refine Plan.det 20 rfl (Grow.refl) ?_
                      apply Exists.intro
                      refine ⟨fun vs x hR hF K hK => ?_, ?_⟩
                      · have f11 := hF 7 _ _ rfl rfl; have f17 := hF 1 _ _ rfl rfl; have f18 := hF 0 _ _ rfl rfl; clear hF
                        go_simp
                        exact hK _ _ (Grow.refl _) rfl
                      refine Plan.det 21 rfl (Grow.refl) ?_
                      apply Exists.intro
                      refine ⟨fun vs x hR hF K hK => ?_, ?_⟩
                      · have f11 := hF 8 _ _ rfl rfl; have f19 := hF 0 _ _ rfl rfl; clear hF
                        go_simp
                        exact hK _ _ (Grow.refl _) rfl
                      refine Plan.det 22 rfl (Grow.refl) ?_
                      apply Exists.intro
                      refine ⟨fun vs x hR hF K hK => ?_, ?_⟩
                      · have f11 := hF 9 _ _ rfl rfl; have f20 := hF 0 _ _ rfl rfl; have hc := HC.out x hR; clear hF
                        go_simp
                        exact hK _ _ (Grow.refl _) rfl
                      refine Plan.det 23 rfl (Grow.refl) ?_
                      apply Exists.intro
                      refine ⟨fun vs x hR hF K hK => ?_, ?_⟩
                      · have f11 := hF 10 _ _ rfl rfl; have f16 := hF 5 _ _ rfl rfl; have f21 := hF 0 _ _ rfl rfl; clear hF
                        go_simp
                        refine (HSS.out x hR).mono ?_
                        rintro e x1 ⟨rfl, hbe⟩
                        exact ⟨_, rfl, hK _ _ hbe rfl⟩
                      refine Plan.det 24 rfl (Grow.refl) ?_
                      apply Exists.intro
                      refine ⟨fun vs x hR hF K hK => ?_, ?_⟩
                      · have f11 := hF 11 _ _ rfl rfl; have f22 := hF 0 _ _ rfl rfl; clear hF
                        go_simp
                        exact hK _ _ (Grow.refl _) rfl
                      refine Plan.nil (fun vs x hR hF => ?_)
                      have f0 := hF 23 _ _ rfl; have f1 := hF 22 _ _ rfl; have f2 := hF 21 _ _ rfl; have f3 := hF 20 _ _ rfl; have f4 := hF 19 _ _ rfl; have f5 := hF 18 _ _ rfl; have f6 := hF 17 _ _ rfl; have f7 := hF 16 _ _ rfl; have f8 := hF 15 _ _ rfl; have f9 := hF 14 _ _ rfl; have f10 := hF 13 _ _ rfl; have f11 := hF 12 _ _ rfl; have f12 := hF 11 _ _ rfl; have f13 := hF 10 _ _ rfl; have f14 := hF 9 _ _ rfl; have f15 := hF 8 _ _ rfl; have f16 := hF 7 _ _ rfl; have f17 := hF 6 _ _ rfl; have f18 := hF 5 _ _ rfl; have f19 := hF 4 _ _ rfl; have f20 := hF 3 _ _ rfl; have f21 := hF 2 _ _ rfl; have f22 := hF 1 _ _ rfl; have f23 := hF 0 _ _ rfl
                      clear hF
                      simp only [f0, f1, f2, f3, f4, f5, f6, f7, f8, f9, f10, f11, f12, f13, f14, f15, f16, f17, f18, f19, f20, f21, f22, f23]
                      clear f0 f1 f2 f3 f4 f5 f6 f7 f8 f9 f10 f11 f12 f13 f14 f15 f16 f17 f18 f19 f20 f21 f22 f23
                      simp only [List.drop_succ_cons, List.drop_zero]
                      have HBZ : Hid (Below wx.heap.size wx x) := HB6.out.trans ((grow_below hR).mono HB6.out.size)
                      clear HC HSS hR
                      go_wp2_with fail
                      refine ⟨⟨k + 1, by omega, by go_num, HBZ.out⟩, ?_⟩
                      simp [intOf]
                      omega
                    · have hnv : ((u1 : Int) == (v1 : Int)) = false := by simp; omega
                      have hnv2 : ¬ u1 = v1 := hev
                      clear hdq hev
                      go_wp2_with fail
                      go_quiet (fail)
                      have HBZ : Hid (Below wx.heap.size wx (wr.drewN nq)) := HB6.out.trans ((below_drewN (Below.refl _ _) nq).mono HB6.out.size)
                      generalize wr.drewN nq = z at HBZ ⊢
                      go_wp2_with fail
                      refine ⟨⟨k + 1, by omega, by go_num, HBZ.out⟩, ?_⟩
                      simp [intOf]
                      omega
                  · have hlkI : ¬ (k : Int) < (j : Int) + 1 := by omega
                    have HZE : Hid (Below w2.heap.size w2 wr) := (((HB.out.trans (HBX.out.mono HB.out.size)).trans (HB5.out.mono (HB.out.trans (HBX.out.mono HB.out.size)).size)).trans (HB6.out.mono ((HB.out.trans (HBX.out.mono HB.out.size)).trans (HB5.out.mono (HB.out.trans (HBX.out.mono HB.out.size)).size)).size))
                    go_wp2_with fail
                    refine ⟨⟨j + 1 + 1, by omega, by go_num, HZE.out⟩, ?_⟩
                    simp [intOf]
                    omega
        · have hltI : ¬ (i : Int) < (n : Int) := by omega
          have HAW := hid (awake9_any wo HL3.out.2.2.2.2)
          go_wp2_with fail
          refine HAW.out.mono ?_
          rintro e w7 ⟨rfl, hb⟩
          have HB2 := hid (HL3.out.2.2.1.trans (hb.mono HL3.out.2.2.1.size))
          clear hb q0 q1
          go_wp2_with fail
          all_goals (try go_ret)
          all_goals exact ⟨rfl, HB2.out⟩
    · have hl : l = [] := by
        cases l with
        | nil => rfl
        | cons q l => exact absurd (HOK.out (by simp)).2 hx
      subst hl
      obtain rfl : n = 0 := HN.out
      have hxb : (x != 0) = true := by simpa using hx
      have HAW := hid (awake9_any w2 HL2.out.2.2.2.2)
      go_wp2_with fail
      refine HAW.out.mono ?_
      rintro e w7 ⟨rfl, hb⟩
      have HB := hid (HL2.out.2.2.1.trans (hb.mono HL2.out.2.2.1.size))
      clear hb q0 q1
      go_wp2_with fail
      all_goals (try go_ret)
      all_goals exact ⟨rfl, HB.out⟩
end Go.Proofs.YtkinnfejgpnddaaDoor
