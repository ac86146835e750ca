/- The program of layer 9: parses, op 9. -/
import Derived.Test.YthnpbopnpdlmnaaDoorA32
import Derived.Test.YthnpbopnpdlmnaaDoorA31
namespace Go.Proofs.YthnpbopnpdlmnaaDoor
open Go.RowKit
attribute [local go_sem] gives givesUpon

set_option maxRecDepth 100000 in
set_option maxHeartbeats 16000000 in
theorem ppar9 (wb : World) (N : Nat) (hN : N ≤ 9) (s : ByteArray) (hs : s.size ≤ 1000000) (lines : Bool) (p : Pay) (xs : List Re) (hop : p.op = 9) : PPar wb N s lines (.mk p xs) := by
  intro w cs M sa sc sp i hIn hok hsz hbw hM hsp hspo hi ht
  have hok2 := hok
  rw [Re.ok] at hok2
  have hgr := hok2.2.2.2.1
  have hg9 := hgr (.inr hop)
  have hspl : sp.length ≤ 9 := by have := hspo.1; omega
  obtain ⟨g, hge, hgl⟩ : ∃ g : Nat, p.gr - 1 = (g : Int) ∧ g < sp.length := ⟨(p.gr - 1).toNat, by omega, by have := hspo.1; omega⟩
  obtain ⟨bb, cc, x1, x2, hq, ev, hbl, -, p00, p01⟩ := hsp.get hgl
  injection ev with ev1 ev2 ev3
  subst ev1; subst ev3
  clear ev2 hok2
  rw [Re.In] at hIn
  obtain ⟨ad, cap, rfl, hwf, -, -, -, -⟩ := hIn
  simp only [Pay.cells]
  have hP : PAt w M s lines [.int .i64 p.op, .int .u64 p.set.a, .int .u64 p.set.b, .int .u64 p.set.c, .int .u64 p.set.d, .int .i64 p.lo, .int .i64 p.hi, .int .i64 p.gr, .slice ad xs.length cap] (.int .i64 i) (.slice (some ⟨bb, 0, none⟩) sp.length sc) (((w.alloc (.cells #[.int .i64 p.op, .int .u64 p.set.a, .int .u64 p.set.b, .int .u64 p.set.c, .int .u64 p.set.d, .int .i64 p.lo, .int .i64 p.hi, .int .i64 p.gr, .slice ad xs.length cap] 28)).alloc (.cells #[.int .i64 i, .slice (some ⟨bb, 0, none⟩) sp.length sc] 71)).alloc (.cells #[.slice none 0 0] 39)) := ⟨((Row.new rfl).alloc _).alloc _, (Row.new (by simp)).alloc _, ((hM.alloc _).alloc _).alloc _, (((Below.refl _ _).alloc (Nat.le_refl _) _).alloc (by simp) _).alloc (by simp; omega) _⟩
  have hO : OutV (w.heap.size + 2) (.slice none 0 0) [] (((w.alloc (.cells #[.int .i64 p.op, .int .u64 p.set.a, .int .u64 p.set.b, .int .u64 p.set.c, .int .u64 p.set.d, .int .i64 p.lo, .int .i64 p.hi, .int .i64 p.gr, .slice ad xs.length cap] 28)).alloc (.cells #[.int .i64 i, .slice (some ⟨bb, 0, none⟩) sp.length sc] 71)).alloc (.cells #[.slice none 0 0] 39)) := ⟨Row.new (by simp), OwnP.nil _ _⟩
  have q0 := hP.1.c9
  have q1 := hP.2.1.two9
  have q2 := hP.2.2.1.two9
  have HP := hid (⟨hP, hO⟩ : _ ∧ _)
  have HT := hid ht
  have HSP := hid (⟨hsp, hspo⟩ : _ ∧ _)
  have HO := hid hop
  have hsl : s.data.toList.length = s.size := by rw [Array.length_toList]; rfl
  have HSL := hid hsl
  have HPA1 : Hid (parses s.data.toList lines (.mk p xs) i sp = some (if againOf s.data.toList (sp.getD (p.gr.toNat - 1) (-1, -1)) i then [(i + ((sp.getD (p.gr.toNat - 1) (-1, -1)).2 - (sp.getD (p.gr.toNat - 1) (-1, -1)).1).toNat, sp)] else [])) := by show _ = _; rw [parses]; simp only [hop, againOf]; rfl
  have e1 : (p.op == 1) = false := by rw [HO.out]; decide
  have e2 : (p.op == 2) = false := by rw [HO.out]; decide
  have e7 : (p.op == 7) = false := by rw [HO.out]; decide
  have e8 : (p.op == 8) = false := by rw [HO.out]; decide
  have e9 : (p.op == 9) = true := by rw [HO.out]; decide
  have p0 := (hP.2.2.2.cell (p := ⟨bb, g * 2, none⟩) hbl).trans p00
  have p1 := (hP.2.2.2.cell (p := ⟨bb, g * 2 + 1, none⟩) hbl).trans p01
  have hgd : sp.getD (p.gr.toNat - 1) (-1, -1) = (x1, x2) := by rw [show p.gr.toNat - 1 = g by omega, List.getD_eq_getElem?_getD, hq]; rfl
  have hpa0 := HPA1.out
  rw [hgd] at hpa0
  have HPA0 := hid hpa0
  have hx : (x1 = -1 ∧ x2 = -1) ∨ (0 ≤ x1 ∧ x1 ≤ x2 ∧ x2 ≤ s.size) := by
    rcases hspo.2 (x1, x2) (List.mem_of_getElem? hq) with e | e
    · injection e with e1 e2; exact .inl ⟨e1, e2⟩
    · exact .inr e
  have hgi : (g : Int) < (sp.length : Int) := by omega
  have hwg : IntKind.i64.wrap (g : Int) = (g : Int) := by rw [IntKind.wrap_i64]; omega
  have hn0 := (hid (ht.on hP.2.2.2)).out.none0
  have hn1 := (hid (ht.on hP.2.2.2)).out.none1
  have HT3 := hid (ht.on hP.2.2.2)
  have hb4 : Below ((((w.alloc (.cells #[.int .i64 p.op, .int .u64 p.set.a, .int .u64 p.set.b, .int .u64 p.set.c, .int .u64 p.set.d, .int .i64 p.lo, .int .i64 p.hi, .int .i64 p.gr, .slice ad xs.length cap] 28)).alloc (.cells #[.int .i64 i, .slice (some ⟨bb, 0, none⟩) sp.length sc] 71)).alloc (.cells #[.slice none 0 0] 39))).heap.size (((w.alloc (.cells #[.int .i64 p.op, .int .u64 p.set.a, .int .u64 p.set.b, .int .u64 p.set.c, .int .u64 p.set.d, .int .i64 p.lo, .int .i64 p.hi, .int .i64 p.gr, .slice ad xs.length cap] 28)).alloc (.cells #[.int .i64 i, .slice (some ⟨bb, 0, none⟩) sp.length sc] 71)).alloc (.cells #[.slice none 0 0] 39)) ((((w.alloc (.cells #[.int .i64 p.op, .int .u64 p.set.a, .int .u64 p.set.b, .int .u64 p.set.c, .int .u64 p.set.d, .int .i64 p.lo, .int .i64 p.hi, .int .i64 p.gr, .slice ad xs.length cap] 28)).alloc (.cells #[.int .i64 i, .slice (some ⟨bb, 0, none⟩) sp.length sc] 71)).alloc (.cells #[.slice none 0 0] 39)).alloc (.cells #[.int .i64 x1, .int .i64 x2] 74)) := (Below.refl _ _).alloc (Nat.le_refl _) _
  have HP4 := hid (⟨Row.new (w := (((w.alloc (.cells #[.int .i64 p.op, .int .u64 p.set.a, .int .u64 p.set.b, .int .u64 p.set.c, .int .u64 p.set.d, .int .i64 p.lo, .int .i64 p.hi, .int .i64 p.gr, .slice ad xs.length cap] 28)).alloc (.cells #[.int .i64 i, .slice (some ⟨bb, 0, none⟩) sp.length sc] 71)).alloc (.cells #[.slice none 0 0] 39))) (B := w.heap.size + 3) (cs := [.int .i64 x1, .int .i64 x2]) (T := 74) (by simp), hP.later hb4⟩ : Row ((((w.alloc (.cells #[.int .i64 p.op, .int .u64 p.set.a, .int .u64 p.set.b, .int .u64 p.set.c, .int .u64 p.set.d, .int .i64 p.lo, .int .i64 p.hi, .int .i64 p.gr, .slice ad xs.length cap] 28)).alloc (.cells #[.int .i64 i, .slice (some ⟨bb, 0, none⟩) sp.length sc] 71)).alloc (.cells #[.slice none 0 0] 39)).alloc (.cells #[.int .i64 x1, .int .i64 x2] 74)) (w.heap.size + 3) _ _ ∧ PAt w M s lines [.int .i64 p.op, .int .u64 p.set.a, .int .u64 p.set.b, .int .u64 p.set.c, .int .u64 p.set.d, .int .i64 p.lo, .int .i64 p.hi, .int .i64 p.gr, .slice ad xs.length cap] (.int .i64 i) (.slice (some ⟨bb, 0, none⟩) sp.length sc) ((((w.alloc (.cells #[.int .i64 p.op, .int .u64 p.set.a, .int .u64 p.set.b, .int .u64 p.set.c, .int .u64 p.set.d, .int .i64 p.lo, .int .i64 p.hi, .int .i64 p.gr, .slice ad xs.length cap] 28)).alloc (.cells #[.int .i64 i, .slice (some ⟨bb, 0, none⟩) sp.length sc] 71)).alloc (.cells #[.slice none 0 0] 39)).alloc (.cells #[.int .i64 x1, .int .i64 x2] 74)))
  have HO4 := hid (hO.below hb4)
  have hsz4 : w.heap.size + 3 < (((((w.alloc (.cells #[.int .i64 p.op, .int .u64 p.set.a, .int .u64 p.set.b, .int .u64 p.set.c, .int .u64 p.set.d, .int .i64 p.lo, .int .i64 p.hi, .int .i64 p.gr, .slice ad xs.length cap] 28)).alloc (.cells #[.int .i64 i, .slice (some ⟨bb, 0, none⟩) sp.length sc] 71)).alloc (.cells #[.slice none 0 0] 39)).alloc (.cells #[.int .i64 x1, .int .i64 x2] 74))).heap.size := by simp
  have hbig := ht.big
  have r0 := ((hb4.cell (p := ⟨0, 0, none⟩) (by show 0 < _; simp)).trans hn0)
  have r1 := ((hb4.cell (p := ⟨0, 1, none⟩) (by show 0 < _; simp)).trans hn1)
  clear hP hO hok hsz hbw hM hsp hspo ht hop hsl hgr hg9 hq hgd hb4 hpa0 p00 p01 hbl
  rcases hx with ⟨rfl, rfl⟩ | ⟨h0, h1, h2⟩
  · have HPA : Hid (parses s.data.toList lines (.mk p xs) i sp = some []) := by show _ = _; rw [HPA0.out]; simp [againOf]
    have HE := hid (pend_any w _ _ _ [] N s.size _ HO4.out HP4.out.2.2.2.2 (by simp) (fun q hq => by cases hq) hN hs HT.out (fin_nil s.size))
    have q3 := HO4.out.1.cell 0
    go_enter Tryd.func37, Tryd.ntmps37
    go_wp2_with fail
    refine HE.out.mono ?_
    rintro e z2 ⟨hb2, a2, c2, rfl, h2⟩
    have HR := hid (⟨hb2, h2⟩ : _ ∧ _)
    clear hb2 h2
    go_wp2_with fail
    go_ret
    rw [HPA.out]
    exact ⟨HR.out.1, a2, c2, rfl, HR.out.2⟩
  · obtain ⟨a, rfl⟩ : ∃ a : Nat, x1 = a := ⟨x1.toNat, by omega⟩
    obtain ⟨b, rfl⟩ : ∃ b : Nat, x2 = b := ⟨x2.toNat, by omega⟩
    have da : ((a : Int) == -1) = false := by simp
    obtain ⟨m, hm⟩ : ∃ m : Nat, m = b - a := ⟨_, rfl⟩
    have hwm : IntKind.i64.wrap ((b : Int) - (a : Int)) = (m : Int) := by rw [IntKind.wrap_i64]; omega
    have hmt : ((b : Int) - (a : Int)).toNat = m := by omega
    obtain ⟨k, hk⟩ : ∃ k : Nat, k = i + m := ⟨_, rfl⟩
    have hki : (i : Int) + (m : Int) = (k : Int) := by omega
    have hwk : IntKind.i64.wrap (k : Int) = k := by rw [IntKind.wrap_i64]; omega
    have hkk : i + ((b : Int) - (a : Int)).toNat = k := by omega
    have hab : (a : Int) ≤ (b : Int) ∧ (b : Int) ≤ (s.size : Int) := by omega
    have HC := hid (fun (x : World) (hx : Grow (((((w.alloc (.cells #[.int .i64 p.op, .int .u64 p.set.a, .int .u64 p.set.b, .int .u64 p.set.c, .int .u64 p.set.d, .int .i64 p.lo, .int .i64 p.hi, .int .i64 p.gr, .slice ad xs.length cap] 28)).alloc (.cells #[.int .i64 i, .slice (some ⟨bb, 0, none⟩) sp.length sc] 71)).alloc (.cells #[.slice none 0 0] 39)).alloc (.cells #[.int .i64 (a : Int), .int .i64 (b : Int)] 74))).drew x) => (⟨(HP4.out.2.later (grow_below hx)).1.c9, (HP4.out.2.later (grow_below hx)).2.2.1.two9, (HP4.out.1.below (grow_below hx) HP4.out.1.lt).two9⟩ : _ ∧ _ ∧ _))
    by_cases hle : k ≤ s.size
    · have hleI : (k : Int) ≤ (s.size : Int) := by omega
      have hmin : min (k : Int) (s.size : Int) = (k : Int) := by omega
      have hik : (i : Int) ≤ (k : Int) := by omega
      have hpl : againOf s.data.toList ((a : Int), (b : Int)) i = decide ((s.extract a b).toList = (s.extract i k).toList) := by
        unfold againOf
        rw [ext_list9, ext_list9, HSL.out]
        dsimp only
        rw [hmt, decide_eq_true (show (0 : Int) ≤ (a : Int) by omega), decide_eq_true (show i + m ≤ s.size by omega), show k - i = m by omega, ← hm]
        simp
        exact ⟨fun h => h.symm, fun h => h.symm⟩
      by_cases hse : (s.extract a b).toList = (s.extract i k).toList
      · have hbb : againOf s.data.toList ((a : Int), (b : Int)) i = true := by rw [hpl]; simp [hse]
        have hsb' : ((s.extract a b).toList == (s.extract i k).toList) = true := by simp [hse]
        clear hpl hse hm hk hmt
        have HPA : Hid (parses s.data.toList lines (.mk p xs) i sp = some [(k, sp)]) := by show _ = _; rw [HPA0.out, hbb]; dsimp only; rw [hkk]; rfl
        have HQ : Hid (∀ q, q ∈ ([(k, sp)] : List Parse) → POk N s.size 0 q) := fun q hq => by rw [List.mem_singleton.1 hq]; exact ⟨Nat.zero_le _, by show k ≤ _; omega, HSP.out.2⟩
        have HFI := hid (fin_one (L := s.size) (q := (k, sp)) (by show k ≤ _; omega))
        clear hbb hkk
        go_enter Tryd.func37, Tryd.ntmps37
        go_wp2_with fail
        refine wp_region_two 42 43 rfl (Grow) (by kernel_rfl) (by kernel_rfl) (Grow.refl) (fun _ _ _ => Grow.trans) ?_
        simp only [fill, dstOf, Act.put, List.take_succ_cons, List.take_zero, List.getElem?_toArray, List.getElem?_cons_zero, List.getElem?_cons_succ, Option.bind_some, List.setIfInBounds_toArray, List.set_cons_zero, List.set_cons_succ]
        refine Plan.det 1 rfl (Grow.refl) ?_
        apply Exists.intro
        refine ⟨fun vs x hR hF K hK => ?_, ?_⟩
        · clear hF
          go_simp
          exact hK _ _ (Grow.refl _) rfl
        refine Plan.det 2 rfl (Grow.refl) ?_
        apply Exists.intro
        refine ⟨fun vs x hR hF K hK => ?_, ?_⟩
        · clear hF
          go_simp
          exact hK _ _ (Grow.refl _) rfl
        refine Plan.det 3 rfl (Grow.refl) ?_
        apply Exists.intro
        refine ⟨fun vs x hR hF K hK => ?_, ?_⟩
        · clear hF
          go_simp
          exact hK _ _ (Grow.refl _) rfl
        refine Plan.det 4 rfl (Grow.refl) ?_
        apply Exists.intro
        refine ⟨fun vs x hR hF K hK => ?_, ?_⟩
        · have f1 := hF 1 _ _ rfl rfl; have f2 := hF 0 _ _ rfl rfl; clear hF
          go_simp
          exact hK _ _ (Grow.refl _) rfl
        refine Plan.det 5 rfl (Grow.refl) ?_
        apply Exists.intro
        refine ⟨fun vs x hR hF K hK => ?_, ?_⟩
        · clear hF
          go_simp
          exact hK _ _ (Grow.refl _) rfl
        refine Plan.det 6 rfl (Grow.refl) ?_
        apply Exists.intro
        refine ⟨fun vs x hR hF K hK => ?_, ?_⟩
        · have f4 := hF 0 _ _ rfl rfl; clear hF
          go_simp
          exact hK _ _ (Grow.refl _) rfl
        refine Plan.det 7 rfl (Grow.refl) ?_
        apply Exists.intro
        refine ⟨fun vs x hR hF K hK => ?_, ?_⟩
        · have f5 := hF 0 _ _ rfl rfl; clear hF
          go_simp
          exact hK _ _ (Grow.refl _) rfl
        refine Plan.det 8 rfl (Grow.refl) ?_
        apply Exists.intro
        refine ⟨fun vs x hR hF K hK => ?_, ?_⟩
        · have f6 := hF 0 _ _ rfl rfl; have hc := HC.out x hR; clear hF
          go_simp
          exact hK _ _ (Grow.refl _) rfl
        refine Plan.det 9 rfl (Grow.refl) ?_
        apply Exists.intro
        refine ⟨fun vs x hR hF K hK => ?_, ?_⟩
        · have f7 := hF 0 _ _ rfl rfl; clear hF
          go_simp
          exact hK _ _ (Grow.refl _) rfl
        refine Plan.det 10 rfl (Grow.refl) ?_
        apply Exists.intro
        refine ⟨fun vs x hR hF K hK => ?_, ?_⟩
        · have f3 := hF 5 _ _ rfl rfl; have f8 := hF 0 _ _ rfl rfl; clear hF
          go_simp
          exact hK _ _ (Grow.refl _) rfl
        refine Plan.det 11 rfl (Grow.refl) ?_
        apply Exists.intro
        refine ⟨fun vs x hR hF K hK => ?_, ?_⟩
        · have f9 := hF 0 _ _ rfl rfl; clear hF
          go_simp
          exact hK _ _ (Grow.refl _) rfl
        refine Plan.det 12 rfl (Grow.refl) ?_
        apply Exists.intro
        refine ⟨fun vs x hR hF K hK => ?_, ?_⟩
        · have f10 := hF 0 _ _ rfl rfl; clear hF
          go_simp
          exact hK _ _ (Grow.refl _) rfl
        refine Plan.det 13 rfl (Grow.refl) ?_
        apply Exists.intro
        refine ⟨fun vs x hR hF K hK => ?_, ?_⟩
        · have f10 := hF 1 _ _ rfl rfl; have f11 := hF 0 _ _ rfl rfl; clear hF
          go_simp
          exact hK _ _ (Grow.refl _) rfl
        refine Plan.det 14 rfl (Grow.refl) ?_
        apply Exists.intro
        refine ⟨fun vs x hR hF K hK => ?_, ?_⟩
        · have f10 := hF 2 _ _ rfl rfl; have f12 := hF 0 _ _ rfl rfl; clear hF
          go_simp
          exact hK _ _ (Grow.refl _) rfl
        refine Plan.det 15 rfl (Grow.refl) ?_
        apply Exists.intro
        refine ⟨fun vs x hR hF K hK => ?_, ?_⟩
        · have f10 := hF 3 _ _ rfl rfl; have f13 := hF 0 _ _ rfl rfl; have hc := HC.out x hR; clear hF
          go_simp
          exact hK _ _ (Grow.refl _) rfl
        refine Plan.det 16 rfl (Grow.refl) ?_
        apply Exists.intro
        refine ⟨fun vs x hR hF K hK => ?_, ?_⟩
        · have f10 := hF 4 _ _ rfl rfl; clear hF
          go_simp
          exact hK _ _ (Grow.refl _) rfl
        refine Plan.det 17 rfl (Grow.refl) ?_
        apply Exists.intro
        refine ⟨fun vs x hR hF K hK => ?_, ?_⟩
        · have f10 := hF 5 _ _ rfl rfl; have f15 := hF 0 _ _ rfl rfl; have hc := HC.out x hR; clear hF
          go_simp
          exact hK _ _ (Grow.refl _) rfl
        refine Plan.det 18 rfl (Grow.refl) ?_
        apply Exists.intro
        refine ⟨fun vs x hR hF K hK => ?_, ?_⟩
        · have f10 := hF 6 _ _ rfl rfl; clear hF
          go_simp
          exact hK _ _ (Grow.refl _) rfl
        refine Plan.det 19 rfl (Grow.refl) ?_
        apply Exists.intro
        refine ⟨fun vs x hR hF K hK => ?_, ?_⟩
        · have f10 := hF 7 _ _ rfl rfl; have f17 := hF 0 _ _ rfl rfl; have hc := HC.out x hR; clear hF
          go_simp
          exact hK _ _ (Grow.refl _) rfl
        refine Plan.det 20 rfl (Grow.refl) ?_
        apply Exists.intro
        refine ⟨fun vs x hR hF K hK => ?_, ?_⟩
        · have f10 := hF 8 _ _ rfl rfl; have f14 := hF 4 _ _ rfl rfl; have f16 := hF 2 _ _ rfl rfl; have f18 := hF 0 _ _ rfl rfl; clear hF
          go_simp
          exact hK _ _ (Grow.refl _) rfl
        refine Plan.det 21 rfl (Grow.refl) ?_
        apply Exists.intro
        refine ⟨fun vs x hR hF K hK => ?_, ?_⟩
        · have f10 := hF 9 _ _ rfl rfl; clear hF
          go_simp
          exact hK _ _ (Grow.refl _) rfl
        refine Plan.det 22 rfl (Grow.refl) ?_
        apply Exists.intro
        refine ⟨fun vs x hR hF K hK => ?_, ?_⟩
        · have f10 := hF 10 _ _ rfl rfl; have f20 := hF 0 _ _ rfl rfl; clear hF
          go_simp
          exact hK _ _ (Grow.refl _) rfl
        refine Plan.det 23 rfl (Grow.refl) ?_
        apply Exists.intro
        refine ⟨fun vs x hR hF K hK => ?_, ?_⟩
        · have f10 := hF 11 _ _ rfl rfl; have f21 := hF 0 _ _ rfl rfl; clear hF
          go_simp
          exact hK _ _ (Grow.refl _) rfl
        refine Plan.det 24 rfl (Grow.refl) ?_
        apply Exists.intro
        refine ⟨fun vs x hR hF K hK => ?_, ?_⟩
        · have f10 := hF 12 _ _ rfl rfl; have f22 := hF 0 _ _ rfl rfl; have hc := HC.out x hR; clear hF
          go_simp
          exact hK _ _ (Grow.refl _) rfl
        refine Plan.det 25 rfl (Grow.refl) ?_
        apply Exists.intro
        refine ⟨fun vs x hR hF K hK => ?_, ?_⟩
        · have f10 := hF 13 _ _ rfl rfl; clear hF
          go_simp
          exact hK _ _ (Grow.refl _) rfl
        refine Plan.det 26 rfl (Grow.refl) ?_
        apply Exists.intro
        refine ⟨fun vs x hR hF K hK => ?_, ?_⟩
        · have f10 := hF 14 _ _ rfl rfl; clear hF
          go_simp
          exact hK _ _ (Grow.refl _) rfl
        refine Plan.det 27 rfl (Grow.refl) ?_
        apply Exists.intro
        refine ⟨fun vs x hR hF K hK => ?_, ?_⟩
        · have f10 := hF 15 _ _ rfl rfl; clear hF
          go_simp
          exact hK _ _ (Grow.refl _) rfl
        refine Plan.det 28 rfl (Grow.refl) ?_
        apply Exists.intro
        refine ⟨fun vs x hR hF K hK => ?_, ?_⟩
        · have f10 := hF 16 _ _ rfl rfl; have f25 := hF 1 _ _ rfl rfl; have f26 := hF 0 _ _ rfl rfl; clear hF
          go_simp
          exact hK _ _ (Grow.refl _) rfl
        refine Plan.det 29 rfl (Grow.refl) ?_
        apply Exists.intro
        refine ⟨fun vs x hR hF K hK => ?_, ?_⟩
        · have f10 := hF 17 _ _ rfl rfl; clear hF
          go_simp
          exact hK _ _ (Grow.refl _) rfl
        refine Plan.det 30 rfl (Grow.refl) ?_
        apply Exists.intro
        refine ⟨fun vs x hR hF K hK => ?_, ?_⟩
        · have f10 := hF 18 _ _ rfl rfl; have f28 := hF 0 _ _ rfl rfl; clear hF
          go_simp
          exact hK _ _ (Grow.refl _) rfl
        refine Plan.det 31 rfl (Grow.refl) ?_
        apply Exists.intro
        refine ⟨fun vs x hR hF K hK => ?_, ?_⟩
        · have f10 := hF 19 _ _ rfl rfl; have f29 := hF 0 _ _ rfl rfl; clear hF
          go_simp
          exact hK _ _ (Grow.refl _) rfl
        refine Plan.det 32 rfl (Grow.refl) ?_
        apply Exists.intro
        refine ⟨fun vs x hR hF K hK => ?_, ?_⟩
        · have f10 := hF 20 _ _ rfl rfl; have f30 := hF 0 _ _ rfl rfl; have hc := HC.out x hR; clear hF
          go_simp
          exact hK _ _ (Grow.refl _) rfl
        refine Plan.det 33 rfl (Grow.refl) ?_
        apply Exists.intro
        refine ⟨fun vs x hR hF K hK => ?_, ?_⟩
        · have f10 := hF 21 _ _ rfl rfl; have f31 := hF 0 _ _ rfl rfl; clear hF
          go_simp
          exact hK _ _ (Grow.refl _) rfl
        refine Plan.det 34 rfl (Grow.refl) ?_
        apply Exists.intro
        refine ⟨fun vs x hR hF K hK => ?_, ?_⟩
        · have f10 := hF 22 _ _ rfl rfl; have f27 := hF 5 _ _ rfl rfl; have f32 := hF 0 _ _ rfl rfl; clear hF
          go_simp
          exact hK _ _ (Grow.refl _) rfl
        refine Plan.det 35 rfl (Grow.refl) ?_
        apply Exists.intro
        refine ⟨fun vs x hR hF K hK => ?_, ?_⟩
        · have f10 := hF 23 _ _ rfl rfl; have f23 := hF 10 _ _ rfl rfl; have f24 := hF 9 _ _ rfl rfl; have f33 := hF 0 _ _ rfl rfl; clear hF
          go_simp
          exact hK _ _ (Grow.refl _) rfl
        refine Plan.det 36 rfl (Grow.refl) ?_
        apply Exists.intro
        refine ⟨fun vs x hR hF K hK => ?_, ?_⟩
        · have f10 := hF 24 _ _ rfl rfl; have f19 := hF 15 _ _ rfl rfl; have f34 := hF 0 _ _ rfl rfl; clear hF
          go_simp
          exact hK _ _ (Grow.refl _) rfl
        refine Plan.det 37 rfl (Grow.refl) ?_
        apply Exists.intro
        refine ⟨fun vs x hR hF K hK => ?_, ?_⟩
        · have f10 := hF 25 _ _ rfl rfl; have f35 := hF 0 _ _ rfl rfl; clear hF
          go_simp
          exact hK _ _ (Grow.refl _) rfl
        refine Plan.det 38 rfl (Grow.refl) ?_
        apply Exists.intro
        refine ⟨fun vs x hR hF K hK => ?_, ?_⟩
        · clear hF
          go_simp
          exact hK _ _ (Grow.refl _) rfl
        refine Plan.det 39 rfl (Grow.refl) ?_
        apply Exists.intro
        refine ⟨fun vs x hR hF K hK => ?_, ?_⟩
        · clear hF
          go_simp
          exact hK _ _ (Grow.refl _) rfl
        refine Plan.det 40 rfl (Grow.refl) ?_
        apply Exists.intro
        refine ⟨fun vs x hR hF K hK => ?_, ?_⟩
        · have f37 := hF 1 _ _ rfl rfl; have f38 := hF 0 _ _ rfl rfl; clear hF
          go_simp
          exact hK _ _ (Grow.refl _) rfl
        refine Plan.det 41 rfl (Grow.refl) ?_
        apply Exists.intro
        refine ⟨fun vs x hR hF K hK => ?_, ?_⟩
        · clear hF
          go_simp
          exact hK _ _ (Grow.refl _) rfl
        refine Plan.det 42 rfl (Grow.refl) ?_
        apply Exists.intro
        refine ⟨fun vs x hR hF K hK => ?_, ?_⟩
        · have f39 := hF 1 _ _ rfl rfl; have f40 := hF 0 _ _ rfl rfl; clear hF
          go_simp
          exact hK _ _ (Grow.refl _) rfl
        refine PlanEnd (by simp) (fun vs x hR hF => ?_)
        have f0 := hF 41 _ _ rfl; have f1 := hF 40 _ _ rfl; have f2 := hF 39 _ _ rfl; have f3 := hF 38 _ _ rfl; have f4 := hF 37 _ _ rfl; have f5 := hF 36 _ _ rfl; have f6 := hF 35 _ _ rfl; have f7 := hF 34 _ _ rfl; have f8 := hF 33 _ _ rfl; have f9 := hF 32 _ _ rfl; have f10 := hF 31 _ _ rfl; have f11 := hF 30 _ _ rfl; have f12 := hF 29 _ _ rfl; have f13 := hF 28 _ _ rfl; have f14 := hF 27 _ _ rfl; have f15 := hF 26 _ _ rfl; have f16 := hF 25 _ _ rfl; have f17 := hF 24 _ _ rfl; have f18 := hF 23 _ _ rfl; have f19 := hF 22 _ _ rfl; have f20 := hF 21 _ _ rfl; have f21 := hF 20 _ _ rfl; have f22 := hF 19 _ _ rfl; have f23 := hF 18 _ _ rfl; have f24 := hF 17 _ _ rfl; have f25 := hF 16 _ _ rfl; have f26 := hF 15 _ _ rfl; have f27 := hF 14 _ _ rfl; have f28 := hF 13 _ _ rfl; have f29 := hF 12 _ _ rfl; have f30 := hF 11 _ _ rfl; have f31 := hF 10 _ _ rfl; have f32 := hF 9 _ _ rfl; have f33 := hF 8 _ _ rfl; have f34 := hF 7 _ _ rfl; have f35 := hF 6 _ _ rfl; have f36 := hF 5 _ _ rfl; have f37 := hF 4 _ _ rfl; have f38 := hF 3 _ _ rfl; have f39 := hF 2 _ _ rfl; have f40 := hF 1 _ _ rfl; have f41 := hF 0 _ _ rfl
        clear hF
        simp only [f0, f1, f2, f3, f4, f5, f6, f7, f8, f9, f10, f11, f12, f13, f14, f15, f16, f17, f18, f19, f20, f21, f22, f23, f24, f25, f26, f27, f28, f29, f30, f31, f32, f33, f34, f35, f36, f37, f38, f39, f40, f41]
        clear f0 f1 f2 f3 f4 f5 f6 f7 f8 f9 f10 f11 f12 f13 f14 f15 f16 f17 f18 f19 f20 f21 f22 f23 f24 f25 f26 f27 f28 f29 f30 f31 f32 f33 f34 f35 f36 f37 f38 f39 f40 f41
        intro oo hoo KQ hK
        obtain rfl := Option.some.inj hoo
        clear hoo
        have HBX := hid (HP4.out.2.2.2.2.trans ((grow_below hR).mono (by omega)))
        have HOX := hid (HO4.out.below (grow_below hR))
        have HSX := hid (HSP.out.1.below HBX.out)
        clear hR
        go_simp
        have hpa := padd_any x (w.heap.size + 2) (.slice none 0 0) [] true (k, sp) (some ⟨bb, 0, none⟩) sc HOX.out (by simp) HSX.out
        rw [if_pos rfl, List.nil_append] at hpa
        refine hpa.mono ?_
        clear hpa
        rintro e z ⟨rfl, ov, hz⟩
        refine ⟨_, rfl, hK _ _ ?_⟩
        clear hK
        unfold AfterC
        simp only [fill, dstOf, Act.put, List.getElem?_toArray, List.getElem?_cons_zero, List.getElem?_cons_succ, Option.bind_some, List.setIfInBounds_toArray, List.set_cons_zero, List.set_cons_succ, List.drop_succ_cons, List.drop_zero]
        refine Plan.nil (fun vs x hR2 hF => ?_)
        have f42 := hF 0 _ _ rfl
        clear hF
        simp only [f42]
        clear f42
        subst hR2
        simp only [List.drop_succ_cons, List.drop_nil]
        clear HC q0 q1 q2
        have HZ := hid (⟨hz.1, HBX.out.trans ((hz.low HOX.out).mono (by have := HBX.out.size; omega))⟩ : _ ∧ Below w.heap.size w z)
        have q3 := HZ.out.1.1.cell 0
        have HE := hid (pend_any w z _ ov _ N s.size _ HZ.out.1 HZ.out.2 (by simp) HQ.out hN hs HT.out HFI.out)
        clear hz
        go_wp2_with fail
        refine HE.out.mono ?_
        rintro e z2 ⟨hb2, a2, c2, rfl, h2⟩
        have HR := hid (⟨hb2, h2⟩ : _ ∧ _)
        clear hb2 h2
        go_wp2_with fail
        go_ret
        rw [HPA.out]
        exact ⟨HR.out.1, a2, c2, rfl, HR.out.2⟩
      · have hbb : againOf s.data.toList ((a : Int), (b : Int)) i = false := by rw [hpl]; simp [hse]
        have hsb' : ((s.extract a b).toList == (s.extract i k).toList) = false := by simp [hse]
        clear hpl hse hm hk hmt
        have HPA : Hid (parses s.data.toList lines (.mk p xs) i sp = some []) := by show _ = _; rw [HPA0.out, hbb]; rfl
        have HQ : Hid (∀ q, q ∈ ([] : List Parse) → POk N s.size 0 q) := fun q hq => by cases hq
        have HFI := hid (fin_nil s.size)
        clear hbb hkk
        go_enter Tryd.func37, Tryd.ntmps37
        go_wp2_with fail
        refine wp_region_two 42 43 rfl (Grow) (by kernel_rfl) (by kernel_rfl) (Grow.refl) (fun _ _ _ => Grow.trans) ?_
        simp only [fill, dstOf, Act.put, List.take_succ_cons, List.take_zero, List.getElem?_toArray, List.getElem?_cons_zero, List.getElem?_cons_succ, Option.bind_some, List.setIfInBounds_toArray, List.set_cons_zero, List.set_cons_succ]
        refine Plan.det 1 rfl (Grow.refl) ?_
        apply Exists.intro
        refine ⟨fun vs x hR hF K hK => ?_, ?_⟩
        · clear hF
          go_simp
          exact hK _ _ (Grow.refl _) rfl
        refine Plan.det 2 rfl (Grow.refl) ?_
        apply Exists.intro
        refine ⟨fun vs x hR hF K hK => ?_, ?_⟩
        · clear hF
          go_simp
          exact hK _ _ (Grow.refl _) rfl
        refine Plan.det 3 rfl (Grow.refl) ?_
        apply Exists.intro
        refine ⟨fun vs x hR hF K hK => ?_, ?_⟩
        · clear hF
          go_simp
          exact hK _ _ (Grow.refl _) rfl
        refine Plan.det 4 rfl (Grow.refl) ?_
        apply Exists.intro
        refine ⟨fun vs x hR hF K hK => ?_, ?_⟩
        · have f1 := hF 1 _ _ rfl rfl; have f2 := hF 0 _ _ rfl rfl; clear hF
          go_simp
          exact hK _ _ (Grow.refl _) rfl
        refine Plan.det 5 rfl (Grow.refl) ?_
        apply Exists.intro
        refine ⟨fun vs x hR hF K hK => ?_, ?_⟩
        · clear hF
          go_simp
          exact hK _ _ (Grow.refl _) rfl
        refine Plan.det 6 rfl (Grow.refl) ?_
        apply Exists.intro
        refine ⟨fun vs x hR hF K hK => ?_, ?_⟩
        · have f4 := hF 0 _ _ rfl rfl; clear hF
          go_simp
          exact hK _ _ (Grow.refl _) rfl
        refine Plan.det 7 rfl (Grow.refl) ?_
        apply Exists.intro
        refine ⟨fun vs x hR hF K hK => ?_, ?_⟩
        · have f5 := hF 0 _ _ rfl rfl; clear hF
          go_simp
          exact hK _ _ (Grow.refl _) rfl
        refine Plan.det 8 rfl (Grow.refl) ?_
        apply Exists.intro
        refine ⟨fun vs x hR hF K hK => ?_, ?_⟩
        · have f6 := hF 0 _ _ rfl rfl; have hc := HC.out x hR; clear hF
          go_simp
          exact hK _ _ (Grow.refl _) rfl
        refine Plan.det 9 rfl (Grow.refl) ?_
        apply Exists.intro
        refine ⟨fun vs x hR hF K hK => ?_, ?_⟩
        · have f7 := hF 0 _ _ rfl rfl; clear hF
          go_simp
          exact hK _ _ (Grow.refl _) rfl
        refine Plan.det 10 rfl (Grow.refl) ?_
        apply Exists.intro
        refine ⟨fun vs x hR hF K hK => ?_, ?_⟩
        · have f3 := hF 5 _ _ rfl rfl; have f8 := hF 0 _ _ rfl rfl; clear hF
          go_simp
          exact hK _ _ (Grow.refl _) rfl
        refine Plan.det 11 rfl (Grow.refl) ?_
        apply Exists.intro
        refine ⟨fun vs x hR hF K hK => ?_, ?_⟩
        · have f9 := hF 0 _ _ rfl rfl; clear hF
          go_simp
          exact hK _ _ (Grow.refl _) rfl
        refine Plan.det 12 rfl (Grow.refl) ?_
        apply Exists.intro
        refine ⟨fun vs x hR hF K hK => ?_, ?_⟩
        · have f10 := hF 0 _ _ rfl rfl; clear hF
          go_simp
          exact hK _ _ (Grow.refl _) rfl
        refine Plan.det 13 rfl (Grow.refl) ?_
        apply Exists.intro
        refine ⟨fun vs x hR hF K hK => ?_, ?_⟩
        · have f10 := hF 1 _ _ rfl rfl; have f11 := hF 0 _ _ rfl rfl; clear hF
          go_simp
          exact hK _ _ (Grow.refl _) rfl
        refine Plan.det 14 rfl (Grow.refl) ?_
        apply Exists.intro
        refine ⟨fun vs x hR hF K hK => ?_, ?_⟩
        · have f10 := hF 2 _ _ rfl rfl; have f12 := hF 0 _ _ rfl rfl; clear hF
          go_simp
          exact hK _ _ (Grow.refl _) rfl
        refine Plan.det 15 rfl (Grow.refl) ?_
        apply Exists.intro
        refine ⟨fun vs x hR hF K hK => ?_, ?_⟩
        · have f10 := hF 3 _ _ rfl rfl; have f13 := hF 0 _ _ rfl rfl; have hc := HC.out x hR; clear hF
          go_simp
          exact hK _ _ (Grow.refl _) rfl
        refine Plan.det 16 rfl (Grow.refl) ?_
        apply Exists.intro
        refine ⟨fun vs x hR hF K hK => ?_, ?_⟩
        · have f10 := hF 4 _ _ rfl rfl; clear hF
          go_simp
          exact hK _ _ (Grow.refl _) rfl
        refine Plan.det 17 rfl (Grow.refl) ?_
        apply Exists.intro
        refine ⟨fun vs x hR hF K hK => ?_, ?_⟩
        · have f10 := hF 5 _ _ rfl rfl; have f15 := hF 0 _ _ rfl rfl; have hc := HC.out x hR; clear hF
          go_simp
          exact hK _ _ (Grow.refl _) rfl
        refine Plan.det 18 rfl (Grow.refl) ?_
        apply Exists.intro
        refine ⟨fun vs x hR hF K hK => ?_, ?_⟩
        · have f10 := hF 6 _ _ rfl rfl; clear hF
          go_simp
          exact hK _ _ (Grow.refl _) rfl
        refine Plan.det 19 rfl (Grow.refl) ?_
        apply Exists.intro
        refine ⟨fun vs x hR hF K hK => ?_, ?_⟩
        · have f10 := hF 7 _ _ rfl rfl; have f17 := hF 0 _ _ rfl rfl; have hc := HC.out x hR; clear hF
          go_simp
          exact hK _ _ (Grow.refl _) rfl
        refine Plan.det 20 rfl (Grow.refl) ?_
        apply Exists.intro
        refine ⟨fun vs x hR hF K hK => ?_, ?_⟩
        · have f10 := hF 8 _ _ rfl rfl; have f14 := hF 4 _ _ rfl rfl; have f16 := hF 2 _ _ rfl rfl; have f18 := hF 0 _ _ rfl rfl; clear hF
          go_simp
          exact hK _ _ (Grow.refl _) rfl
        refine Plan.det 21 rfl (Grow.refl) ?_
        apply Exists.intro
        refine ⟨fun vs x hR hF K hK => ?_, ?_⟩
        · have f10 := hF 9 _ _ rfl rfl; clear hF
          go_simp
          exact hK _ _ (Grow.refl _) rfl
        refine Plan.det 22 rfl (Grow.refl) ?_
        apply Exists.intro
        refine ⟨fun vs x hR hF K hK => ?_, ?_⟩
        · have f10 := hF 10 _ _ rfl rfl; have f20 := hF 0 _ _ rfl rfl; clear hF
          go_simp
          exact hK _ _ (Grow.refl _) rfl
        refine Plan.det 23 rfl (Grow.refl) ?_
        apply Exists.intro
        refine ⟨fun vs x hR hF K hK => ?_, ?_⟩
        · have f10 := hF 11 _ _ rfl rfl; have f21 := hF 0 _ _ rfl rfl; clear hF
          go_simp
          exact hK _ _ (Grow.refl _) rfl
        refine Plan.det 24 rfl (Grow.refl) ?_
        apply Exists.intro
        refine ⟨fun vs x hR hF K hK => ?_, ?_⟩
        · have f10 := hF 12 _ _ rfl rfl; have f22 := hF 0 _ _ rfl rfl; have hc := HC.out x hR; clear hF
          go_simp
          exact hK _ _ (Grow.refl _) rfl
        refine Plan.det 25 rfl (Grow.refl) ?_
        apply Exists.intro
        refine ⟨fun vs x hR hF K hK => ?_, ?_⟩
        · have f10 := hF 13 _ _ rfl rfl; clear hF
          go_simp
          exact hK _ _ (Grow.refl _) rfl
        refine Plan.det 26 rfl (Grow.refl) ?_
        apply Exists.intro
        refine ⟨fun vs x hR hF K hK => ?_, ?_⟩
        · have f10 := hF 14 _ _ rfl rfl; clear hF
          go_simp
          exact hK _ _ (Grow.refl _) rfl
        refine Plan.det 27 rfl (Grow.refl) ?_
        apply Exists.intro
        refine ⟨fun vs x hR hF K hK => ?_, ?_⟩
        · have f10 := hF 15 _ _ rfl rfl; clear hF
          go_simp
          exact hK _ _ (Grow.refl _) rfl
        refine Plan.det 28 rfl (Grow.refl) ?_
        apply Exists.intro
        refine ⟨fun vs x hR hF K hK => ?_, ?_⟩
        · have f10 := hF 16 _ _ rfl rfl; have f25 := hF 1 _ _ rfl rfl; have f26 := hF 0 _ _ rfl rfl; clear hF
          go_simp
          exact hK _ _ (Grow.refl _) rfl
        refine Plan.det 29 rfl (Grow.refl) ?_
        apply Exists.intro
        refine ⟨fun vs x hR hF K hK => ?_, ?_⟩
        · have f10 := hF 17 _ _ rfl rfl; clear hF
          go_simp
          exact hK _ _ (Grow.refl _) rfl
        refine Plan.det 30 rfl (Grow.refl) ?_
        apply Exists.intro
        refine ⟨fun vs x hR hF K hK => ?_, ?_⟩
        · have f10 := hF 18 _ _ rfl rfl; have f28 := hF 0 _ _ rfl rfl; clear hF
          go_simp
          exact hK _ _ (Grow.refl _) rfl
        refine Plan.det 31 rfl (Grow.refl) ?_
        apply Exists.intro
        refine ⟨fun vs x hR hF K hK => ?_, ?_⟩
        · have f10 := hF 19 _ _ rfl rfl; have f29 := hF 0 _ _ rfl rfl; clear hF
          go_simp
          exact hK _ _ (Grow.refl _) rfl
        refine Plan.det 32 rfl (Grow.refl) ?_
        apply Exists.intro
        refine ⟨fun vs x hR hF K hK => ?_, ?_⟩
        · have f10 := hF 20 _ _ rfl rfl; have f30 := hF 0 _ _ rfl rfl; have hc := HC.out x hR; clear hF
          go_simp
          exact hK _ _ (Grow.refl _) rfl
        refine Plan.det 33 rfl (Grow.refl) ?_
        apply Exists.intro
        refine ⟨fun vs x hR hF K hK => ?_, ?_⟩
        · have f10 := hF 21 _ _ rfl rfl; have f31 := hF 0 _ _ rfl rfl; clear hF
          go_simp
          exact hK _ _ (Grow.refl _) rfl
        refine Plan.det 34 rfl (Grow.refl) ?_
        apply Exists.intro
        refine ⟨fun vs x hR hF K hK => ?_, ?_⟩
        · have f10 := hF 22 _ _ rfl rfl; have f27 := hF 5 _ _ rfl rfl; have f32 := hF 0 _ _ rfl rfl; clear hF
          go_simp
          exact hK _ _ (Grow.refl _) rfl
        refine Plan.det 35 rfl (Grow.refl) ?_
        apply Exists.intro
        refine ⟨fun vs x hR hF K hK => ?_, ?_⟩
        · have f10 := hF 23 _ _ rfl rfl; have f23 := hF 10 _ _ rfl rfl; have f24 := hF 9 _ _ rfl rfl; have f33 := hF 0 _ _ rfl rfl; clear hF
          go_simp
          exact hK _ _ (Grow.refl _) rfl
        refine Plan.det 36 rfl (Grow.refl) ?_
        apply Exists.intro
        refine ⟨fun vs x hR hF K hK => ?_, ?_⟩
        · have f10 := hF 24 _ _ rfl rfl; have f19 := hF 15 _ _ rfl rfl; have f34 := hF 0 _ _ rfl rfl; clear hF
          go_simp
          exact hK _ _ (Grow.refl _) rfl
        refine Plan.det 37 rfl (Grow.refl) ?_
        apply Exists.intro
        refine ⟨fun vs x hR hF K hK => ?_, ?_⟩
        · have f10 := hF 25 _ _ rfl rfl; have f35 := hF 0 _ _ rfl rfl; clear hF
          go_simp
          exact hK _ _ (Grow.refl _) rfl
        refine Plan.det 38 rfl (Grow.refl) ?_
        apply Exists.intro
        refine ⟨fun vs x hR hF K hK => ?_, ?_⟩
        · clear hF
          go_simp
          exact hK _ _ (Grow.refl _) rfl
        refine Plan.det 39 rfl (Grow.refl) ?_
        apply Exists.intro
        refine ⟨fun vs x hR hF K hK => ?_, ?_⟩
        · clear hF
          go_simp
          exact hK _ _ (Grow.refl _) rfl
        refine Plan.det 40 rfl (Grow.refl) ?_
        apply Exists.intro
        refine ⟨fun vs x hR hF K hK => ?_, ?_⟩
        · have f37 := hF 1 _ _ rfl rfl; have f38 := hF 0 _ _ rfl rfl; clear hF
          go_simp
          exact hK _ _ (Grow.refl _) rfl
        refine Plan.det 41 rfl (Grow.refl) ?_
        apply Exists.intro
        refine ⟨fun vs x hR hF K hK => ?_, ?_⟩
        · clear hF
          go_simp
          exact hK _ _ (Grow.refl _) rfl
        refine Plan.det 42 rfl (Grow.refl) ?_
        apply Exists.intro
        refine ⟨fun vs x hR hF K hK => ?_, ?_⟩
        · have f39 := hF 1 _ _ rfl rfl; have f40 := hF 0 _ _ rfl rfl; clear hF
          go_simp
          exact hK _ _ (Grow.refl _) rfl
        refine PlanEnd (by simp) (fun vs x hR hF => ?_)
        have f0 := hF 41 _ _ rfl; have f1 := hF 40 _ _ rfl; have f2 := hF 39 _ _ rfl; have f3 := hF 38 _ _ rfl; have f4 := hF 37 _ _ rfl; have f5 := hF 36 _ _ rfl; have f6 := hF 35 _ _ rfl; have f7 := hF 34 _ _ rfl; have f8 := hF 33 _ _ rfl; have f9 := hF 32 _ _ rfl; have f10 := hF 31 _ _ rfl; have f11 := hF 30 _ _ rfl; have f12 := hF 29 _ _ rfl; have f13 := hF 28 _ _ rfl; have f14 := hF 27 _ _ rfl; have f15 := hF 26 _ _ rfl; have f16 := hF 25 _ _ rfl; have f17 := hF 24 _ _ rfl; have f18 := hF 23 _ _ rfl; have f19 := hF 22 _ _ rfl; have f20 := hF 21 _ _ rfl; have f21 := hF 20 _ _ rfl; have f22 := hF 19 _ _ rfl; have f23 := hF 18 _ _ rfl; have f24 := hF 17 _ _ rfl; have f25 := hF 16 _ _ rfl; have f26 := hF 15 _ _ rfl; have f27 := hF 14 _ _ rfl; have f28 := hF 13 _ _ rfl; have f29 := hF 12 _ _ rfl; have f30 := hF 11 _ _ rfl; have f31 := hF 10 _ _ rfl; have f32 := hF 9 _ _ rfl; have f33 := hF 8 _ _ rfl; have f34 := hF 7 _ _ rfl; have f35 := hF 6 _ _ rfl; have f36 := hF 5 _ _ rfl; have f37 := hF 4 _ _ rfl; have f38 := hF 3 _ _ rfl; have f39 := hF 2 _ _ rfl; have f40 := hF 1 _ _ rfl; have f41 := hF 0 _ _ rfl
        clear hF
        simp only [f0, f1, f2, f3, f4, f5, f6, f7, f8, f9, f10, f11, f12, f13, f14, f15, f16, f17, f18, f19, f20, f21, f22, f23, f24, f25, f26, f27, f28, f29, f30, f31, f32, f33, f34, f35, f36, f37, f38, f39, f40, f41]
        clear f0 f1 f2 f3 f4 f5 f6 f7 f8 f9 f10 f11 f12 f13 f14 f15 f16 f17 f18 f19 f20 f21 f22 f23 f24 f25 f26 f27 f28 f29 f30 f31 f32 f33 f34 f35 f36 f37 f38 f39 f40 f41
        intro oo hoo KQ hK
        obtain rfl := Option.some.inj hoo
        clear hoo
        have HBX := hid (HP4.out.2.2.2.2.trans ((grow_below hR).mono (by omega)))
        have HOX := hid (HO4.out.below (grow_below hR))
        have HSX := hid (HSP.out.1.below HBX.out)
        clear hR
        go_simp
        have hpa := padd_any x (w.heap.size + 2) (.slice none 0 0) [] false (k, sp) (some ⟨bb, 0, none⟩) sc HOX.out (by simp) HSX.out
        rw [if_neg Bool.false_ne_true] at hpa
        refine hpa.mono ?_
        clear hpa
        rintro e z ⟨rfl, ov, hz⟩
        refine ⟨_, rfl, hK _ _ ?_⟩
        clear hK
        unfold AfterC
        simp only [fill, dstOf, Act.put, List.getElem?_toArray, List.getElem?_cons_zero, List.getElem?_cons_succ, Option.bind_some, List.setIfInBounds_toArray, List.set_cons_zero, List.set_cons_succ, List.drop_succ_cons, List.drop_zero]
        refine Plan.nil (fun vs x hR2 hF => ?_)
        have f42 := hF 0 _ _ rfl
        clear hF
        simp only [f42]
        clear f42
        subst hR2
        simp only [List.drop_succ_cons, List.drop_nil]
        clear HC q0 q1 q2
        have HZ := hid (⟨hz.1, HBX.out.trans ((hz.low HOX.out).mono (by have := HBX.out.size; omega))⟩ : _ ∧ Below w.heap.size w z)
        have q3 := HZ.out.1.1.cell 0
        have HE := hid (pend_any w z _ ov _ N s.size _ HZ.out.1 HZ.out.2 (by simp) HQ.out hN hs HT.out HFI.out)
        clear hz
        go_wp2_with fail
        refine HE.out.mono ?_
        rintro e z2 ⟨hb2, a2, c2, rfl, h2⟩
        have HR := hid (⟨hb2, h2⟩ : _ ∧ _)
        clear hb2 h2
        go_wp2_with fail
        go_ret
        rw [HPA.out]
        exact ⟨HR.out.1, a2, c2, rfl, HR.out.2⟩
    · have hleI : ¬ (k : Int) ≤ (s.size : Int) := by omega
      have hbb : againOf s.data.toList ((a : Int), (b : Int)) i = false := by
        unfold againOf
        rw [HSL.out]
        dsimp only
        rw [hmt, decide_eq_false (show ¬ i + m ≤ s.size by omega)]
        simp
      clear hm hk hmt
      have HPA : Hid (parses s.data.toList lines (.mk p xs) i sp = some []) := by show _ = _; rw [HPA0.out, hbb]; rfl
      have HQ : Hid (∀ q, q ∈ ([] : List Parse) → POk N s.size 0 q) := fun q hq => by cases hq
      have HFI := hid (fin_nil s.size)
      clear hbb hkk
      go_enter Tryd.func37, Tryd.ntmps37
      go_wp2_with fail
      refine wp_region_two 42 43 rfl (Grow) (by kernel_rfl) (by kernel_rfl) (Grow.refl) (fun _ _ _ => Grow.trans) ?_
      simp only [fill, dstOf, Act.put, List.take_succ_cons, List.take_zero, List.getElem?_toArray, List.getElem?_cons_zero, List.getElem?_cons_succ, Option.bind_some, List.setIfInBounds_toArray, List.set_cons_zero, List.set_cons_succ]
      refine Plan.det 1 rfl (Grow.refl) ?_
      apply Exists.intro
      refine ⟨fun vs x hR hF K hK => ?_, ?_⟩
      · clear hF
        go_simp
        exact hK _ _ (Grow.refl _) rfl
      refine Plan.det 2 rfl (Grow.refl) ?_
      apply Exists.intro
      refine ⟨fun vs x hR hF K hK => ?_, ?_⟩
      · clear hF
        go_simp
        exact hK _ _ (Grow.refl _) rfl
      refine Plan.det 3 rfl (Grow.refl) ?_
      apply Exists.intro
      refine ⟨fun vs x hR hF K hK => ?_, ?_⟩
      · clear hF
        go_simp
        exact hK _ _ (Grow.refl _) rfl
      refine Plan.det 4 rfl (Grow.refl) ?_
      apply Exists.intro
      refine ⟨fun vs x hR hF K hK => ?_, ?_⟩
      · have f1 := hF 1 _ _ rfl rfl; have f2 := hF 0 _ _ rfl rfl; clear hF
        go_simp
        exact hK _ _ (Grow.refl _) rfl
      refine Plan.det 5 rfl (Grow.refl) ?_
      apply Exists.intro
      refine ⟨fun vs x hR hF K hK => ?_, ?_⟩
      · clear hF
        go_simp
        exact hK _ _ (Grow.refl _) rfl
      refine Plan.det 6 rfl (Grow.refl) ?_
      apply Exists.intro
      refine ⟨fun vs x hR hF K hK => ?_, ?_⟩
      · have f4 := hF 0 _ _ rfl rfl; clear hF
        go_simp
        exact hK _ _ (Grow.refl _) rfl
      refine Plan.det 7 rfl (Grow.refl) ?_
      apply Exists.intro
      refine ⟨fun vs x hR hF K hK => ?_, ?_⟩
      · have f5 := hF 0 _ _ rfl rfl; clear hF
        go_simp
        exact hK _ _ (Grow.refl _) rfl
      refine Plan.det 8 rfl (Grow.refl) ?_
      apply Exists.intro
      refine ⟨fun vs x hR hF K hK => ?_, ?_⟩
      · have f6 := hF 0 _ _ rfl rfl; have hc := HC.out x hR; clear hF
        go_simp
        exact hK _ _ (Grow.refl _) rfl
      refine Plan.det 9 rfl (Grow.refl) ?_
      apply Exists.intro
      refine ⟨fun vs x hR hF K hK => ?_, ?_⟩
      · have f7 := hF 0 _ _ rfl rfl; clear hF
        go_simp
        exact hK _ _ (Grow.refl _) rfl
      refine Plan.det 10 rfl (Grow.refl) ?_
      apply Exists.intro
      refine ⟨fun vs x hR hF K hK => ?_, ?_⟩
      · have f3 := hF 5 _ _ rfl rfl; have f8 := hF 0 _ _ rfl rfl; clear hF
        go_simp
        exact hK _ _ (Grow.refl _) rfl
      refine Plan.det 11 rfl (Grow.refl) ?_
      apply Exists.intro
      refine ⟨fun vs x hR hF K hK => ?_, ?_⟩
      · have f9 := hF 0 _ _ rfl rfl; clear hF
        go_simp
        exact hK _ _ (Grow.refl _) rfl
      refine Plan.det 12 rfl (Grow.refl) ?_
      apply Exists.intro
      refine ⟨fun vs x hR hF K hK => ?_, ?_⟩
      · have f10 := hF 0 _ _ rfl rfl; clear hF
        go_simp
        exact hK _ _ (Grow.refl _) rfl
      refine Plan.det 13 rfl (Grow.refl) ?_
      apply Exists.intro
      refine ⟨fun vs x hR hF K hK => ?_, ?_⟩
      · have f10 := hF 1 _ _ rfl rfl; have f11 := hF 0 _ _ rfl rfl; clear hF
        go_simp
        exact hK _ _ (Grow.refl _) rfl
      refine Plan.det 14 rfl (Grow.refl) ?_
      apply Exists.intro
      refine ⟨fun vs x hR hF K hK => ?_, ?_⟩
      · have f10 := hF 2 _ _ rfl rfl; have f12 := hF 0 _ _ rfl rfl; clear hF
        go_simp
        exact hK _ _ (Grow.refl _) rfl
      refine Plan.det 15 rfl (Grow.refl) ?_
      apply Exists.intro
      refine ⟨fun vs x hR hF K hK => ?_, ?_⟩
      · have f10 := hF 3 _ _ rfl rfl; have f13 := hF 0 _ _ rfl rfl; have hc := HC.out x hR; clear hF
        go_simp
        exact hK _ _ (Grow.refl _) rfl
      refine Plan.det 16 rfl (Grow.refl) ?_
      apply Exists.intro
      refine ⟨fun vs x hR hF K hK => ?_, ?_⟩
      · have f10 := hF 4 _ _ rfl rfl; clear hF
        go_simp
        exact hK _ _ (Grow.refl _) rfl
      refine Plan.det 17 rfl (Grow.refl) ?_
      apply Exists.intro
      refine ⟨fun vs x hR hF K hK => ?_, ?_⟩
      · have f10 := hF 5 _ _ rfl rfl; have f15 := hF 0 _ _ rfl rfl; have hc := HC.out x hR; clear hF
        go_simp
        exact hK _ _ (Grow.refl _) rfl
      refine Plan.det 18 rfl (Grow.refl) ?_
      apply Exists.intro
      refine ⟨fun vs x hR hF K hK => ?_, ?_⟩
      · have f10 := hF 6 _ _ rfl rfl; clear hF
        go_simp
        exact hK _ _ (Grow.refl _) rfl
      refine Plan.det 19 rfl (Grow.refl) ?_
      apply Exists.intro
      refine ⟨fun vs x hR hF K hK => ?_, ?_⟩
      · have f10 := hF 7 _ _ rfl rfl; have f17 := hF 0 _ _ rfl rfl; have hc := HC.out x hR; clear hF
        go_simp
        exact hK _ _ (Grow.refl _) rfl
      refine Plan.det 20 rfl (Grow.refl) ?_
      apply Exists.intro
      refine ⟨fun vs x hR hF K hK => ?_, ?_⟩
      · have f10 := hF 8 _ _ rfl rfl; have f14 := hF 4 _ _ rfl rfl; have f16 := hF 2 _ _ rfl rfl; have f18 := hF 0 _ _ rfl rfl; clear hF
        go_simp
        exact hK _ _ (Grow.refl _) rfl
      refine Plan.det 21 rfl (Grow.refl) ?_
      apply Exists.intro
      refine ⟨fun vs x hR hF K hK => ?_, ?_⟩
      · have f10 := hF 9 _ _ rfl rfl; clear hF
        go_simp
        exact hK _ _ (Grow.refl _) rfl
      refine Plan.det 22 rfl (Grow.refl) ?_
      apply Exists.intro
      refine ⟨fun vs x hR hF K hK => ?_, ?_⟩
      · have f10 := hF 10 _ _ rfl rfl; have f20 := hF 0 _ _ rfl rfl; clear hF
        go_simp
        exact hK _ _ (Grow.refl _) rfl
      refine Plan.det 23 rfl (Grow.refl) ?_
      apply Exists.intro
      refine ⟨fun vs x hR hF K hK => ?_, ?_⟩
      · have f10 := hF 11 _ _ rfl rfl; have f21 := hF 0 _ _ rfl rfl; clear hF
        go_simp
        exact hK _ _ (Grow.refl _) rfl
      refine Plan.det 24 rfl (Grow.refl) ?_
      apply Exists.intro
      refine ⟨fun vs x hR hF K hK => ?_, ?_⟩
      · have f10 := hF 12 _ _ rfl rfl; have f22 := hF 0 _ _ rfl rfl; have hc := HC.out x hR; clear hF
        go_simp
        exact hK _ _ (Grow.refl _) rfl
      refine Plan.det 25 rfl (Grow.refl) ?_
      apply Exists.intro
      refine ⟨fun vs x hR hF K hK => ?_, ?_⟩
      · have f10 := hF 13 _ _ rfl rfl; clear hF
        go_simp
        exact hK _ _ (Grow.refl _) rfl
      refine Plan.det 26 rfl (Grow.refl) ?_
      apply Exists.intro
      refine ⟨fun vs x hR hF K hK => ?_, ?_⟩
      · have f10 := hF 14 _ _ rfl rfl; clear hF
        go_simp
        exact hK _ _ (Grow.refl _) rfl
      refine Plan.det 27 rfl (Grow.refl) ?_
      apply Exists.intro
      refine ⟨fun vs x hR hF K hK => ?_, ?_⟩
      · have f10 := hF 15 _ _ rfl rfl; clear hF
        go_simp
        exact hK _ _ (Grow.refl _) rfl
      refine Plan.det 28 rfl (Grow.refl) ?_
      apply Exists.intro
      refine ⟨fun vs x hR hF K hK => ?_, ?_⟩
      · have f10 := hF 16 _ _ rfl rfl; have f25 := hF 1 _ _ rfl rfl; have f26 := hF 0 _ _ rfl rfl; clear hF
        go_simp
        exact hK _ _ (Grow.refl _) rfl
      refine Plan.det 29 rfl (Grow.refl) ?_
      apply Exists.intro
      refine ⟨fun vs x hR hF K hK => ?_, ?_⟩
      · have f10 := hF 17 _ _ rfl rfl; clear hF
        go_simp
        exact hK _ _ (Grow.refl _) rfl
      refine Plan.det 30 rfl (Grow.refl) ?_
      apply Exists.intro
      refine ⟨fun vs x hR hF K hK => ?_, ?_⟩
      · have f10 := hF 18 _ _ rfl rfl; have f28 := hF 0 _ _ rfl rfl; clear hF
        go_simp
        exact hK _ _ (Grow.refl _) rfl
      refine Plan.det 31 rfl (Grow.refl) ?_
      apply Exists.intro
      refine ⟨fun vs x hR hF K hK => ?_, ?_⟩
      · have f10 := hF 19 _ _ rfl rfl; have f29 := hF 0 _ _ rfl rfl; clear hF
        go_simp
        exact hK _ _ (Grow.refl _) rfl
      refine Plan.det 32 rfl (Grow.refl) ?_
      apply Exists.intro
      refine ⟨fun vs x hR hF K hK => ?_, ?_⟩
      · have f10 := hF 20 _ _ rfl rfl; have f30 := hF 0 _ _ rfl rfl; have hc := HC.out x hR; clear hF
        go_simp
        exact hK _ _ (Grow.refl _) rfl
      refine Plan.det 33 rfl (Grow.refl) ?_
      apply Exists.intro
      refine ⟨fun vs x hR hF K hK => ?_, ?_⟩
      · have f10 := hF 21 _ _ rfl rfl; have f31 := hF 0 _ _ rfl rfl; clear hF
        go_simp
        exact hK _ _ (Grow.refl _) rfl
      refine Plan.det 34 rfl (Grow.refl) ?_
      apply Exists.intro
      refine ⟨fun vs x hR hF K hK => ?_, ?_⟩
      · have f10 := hF 22 _ _ rfl rfl; have f27 := hF 5 _ _ rfl rfl; have f32 := hF 0 _ _ rfl rfl; clear hF
        go_simp
        exact hK _ _ (Grow.refl _) rfl
      refine Plan.det 35 rfl (Grow.refl) ?_
      apply Exists.intro
      refine ⟨fun vs x hR hF K hK => ?_, ?_⟩
      · have f10 := hF 23 _ _ rfl rfl; have f23 := hF 10 _ _ rfl rfl; have f24 := hF 9 _ _ rfl rfl; have f33 := hF 0 _ _ rfl rfl; clear hF
        go_simp
        exact hK _ _ (Grow.refl _) rfl
      refine Plan.det 36 rfl (Grow.refl) ?_
      apply Exists.intro
      refine ⟨fun vs x hR hF K hK => ?_, ?_⟩
      · have f10 := hF 24 _ _ rfl rfl; have f19 := hF 15 _ _ rfl rfl; have f34 := hF 0 _ _ rfl rfl; clear hF
        go_simp
        exact hK _ _ (Grow.refl _) rfl
      refine Plan.det 37 rfl (Grow.refl) ?_
      apply Exists.intro
      refine ⟨fun vs x hR hF K hK => ?_, ?_⟩
      · have f10 := hF 25 _ _ rfl rfl; have f35 := hF 0 _ _ rfl rfl; clear hF
        go_simp
        exact hK _ _ (Grow.refl _) rfl
      refine Plan.det 38 rfl (Grow.refl) ?_
      apply Exists.intro
      refine ⟨fun vs x hR hF K hK => ?_, ?_⟩
      · clear hF
        go_simp
        exact hK _ _ (Grow.refl _) rfl
      refine Plan.det 39 rfl (Grow.refl) ?_
      apply Exists.intro
      refine ⟨fun vs x hR hF K hK => ?_, ?_⟩
      · clear hF
        go_simp
        exact hK _ _ (Grow.refl _) rfl
      refine Plan.det 40 rfl (Grow.refl) ?_
      apply Exists.intro
      refine ⟨fun vs x hR hF K hK => ?_, ?_⟩
      · have f37 := hF 1 _ _ rfl rfl; have f38 := hF 0 _ _ rfl rfl; clear hF
        go_simp
        exact hK _ _ (Grow.refl _) rfl
      refine Plan.det 41 rfl (Grow.refl) ?_
      apply Exists.intro
      refine ⟨fun vs x hR hF K hK => ?_, ?_⟩
      · clear hF
        go_simp
        exact hK _ _ (Grow.refl _) rfl
      refine Plan.det 42 rfl (Grow.refl) ?_
      apply Exists.intro
      refine ⟨fun vs x hR hF K hK => ?_, ?_⟩
      · have f39 := hF 1 _ _ rfl rfl; have f40 := hF 0 _ _ rfl rfl; clear hF
        go_simp
        exact hK _ _ (Grow.refl _) rfl
      refine PlanEnd (by simp) (fun vs x hR hF => ?_)
      have f0 := hF 41 _ _ rfl; have f1 := hF 40 _ _ rfl; have f2 := hF 39 _ _ rfl; have f3 := hF 38 _ _ rfl; have f4 := hF 37 _ _ rfl; have f5 := hF 36 _ _ rfl; have f6 := hF 35 _ _ rfl; have f7 := hF 34 _ _ rfl; have f8 := hF 33 _ _ rfl; have f9 := hF 32 _ _ rfl; have f10 := hF 31 _ _ rfl; have f11 := hF 30 _ _ rfl; have f12 := hF 29 _ _ rfl; have f13 := hF 28 _ _ rfl; have f14 := hF 27 _ _ rfl; have f15 := hF 26 _ _ rfl; have f16 := hF 25 _ _ rfl; have f17 := hF 24 _ _ rfl; have f18 := hF 23 _ _ rfl; have f19 := hF 22 _ _ rfl; have f20 := hF 21 _ _ rfl; have f21 := hF 20 _ _ rfl; have f22 := hF 19 _ _ rfl; have f23 := hF 18 _ _ rfl; have f24 := hF 17 _ _ rfl; have f25 := hF 16 _ _ rfl; have f26 := hF 15 _ _ rfl; have f27 := hF 14 _ _ rfl; have f28 := hF 13 _ _ rfl; have f29 := hF 12 _ _ rfl; have f30 := hF 11 _ _ rfl; have f31 := hF 10 _ _ rfl; have f32 := hF 9 _ _ rfl; have f33 := hF 8 _ _ rfl; have f34 := hF 7 _ _ rfl; have f35 := hF 6 _ _ rfl; have f36 := hF 5 _ _ rfl; have f37 := hF 4 _ _ rfl; have f38 := hF 3 _ _ rfl; have f39 := hF 2 _ _ rfl; have f40 := hF 1 _ _ rfl; have f41 := hF 0 _ _ rfl
      clear hF
      simp only [f0, f1, f2, f3, f4, f5, f6, f7, f8, f9, f10, f11, f12, f13, f14, f15, f16, f17, f18, f19, f20, f21, f22, f23, f24, f25, f26, f27, f28, f29, f30, f31, f32, f33, f34, f35, f36, f37, f38, f39, f40, f41]
      clear f0 f1 f2 f3 f4 f5 f6 f7 f8 f9 f10 f11 f12 f13 f14 f15 f16 f17 f18 f19 f20 f21 f22 f23 f24 f25 f26 f27 f28 f29 f30 f31 f32 f33 f34 f35 f36 f37 f38 f39 f40 f41
      intro oo hoo KQ hK
      obtain rfl := Option.some.inj hoo
      clear hoo
      have HBX := hid (HP4.out.2.2.2.2.trans ((grow_below hR).mono (by omega)))
      have HOX := hid (HO4.out.below (grow_below hR))
      have HSX := hid (HSP.out.1.below HBX.out)
      clear hR
      go_simp
      have hpa := padd_any x (w.heap.size + 2) (.slice none 0 0) [] false (k, sp) (some ⟨bb, 0, none⟩) sc HOX.out (by simp) HSX.out
      rw [if_neg Bool.false_ne_true] at hpa
      refine hpa.mono ?_
      clear hpa
      rintro e z ⟨rfl, ov, hz⟩
      refine ⟨_, rfl, hK _ _ ?_⟩
      clear hK
      unfold AfterC
      simp only [fill, dstOf, Act.put, List.getElem?_toArray, List.getElem?_cons_zero, List.getElem?_cons_succ, Option.bind_some, List.setIfInBounds_toArray, List.set_cons_zero, List.set_cons_succ, List.drop_succ_cons, List.drop_zero]
      refine Plan.nil (fun vs x hR2 hF => ?_)
      have f42 := hF 0 _ _ rfl
      clear hF
      simp only [f42]
      clear f42
      subst hR2
      simp only [List.drop_succ_cons, List.drop_nil]
      clear HC q0 q1 q2
      have HZ := hid (⟨hz.1, HBX.out.trans ((hz.low HOX.out).mono (by have := HBX.out.size; omega))⟩ : _ ∧ Below w.heap.size w z)
      have q3 := HZ.out.1.1.cell 0
      have HE := hid (pend_any w z _ ov _ N s.size _ HZ.out.1 HZ.out.2 (by simp) HQ.out hN hs HT.out HFI.out)
      clear hz
      go_wp2_with fail
      refine HE.out.mono ?_
      rintro e z2 ⟨hb2, a2, c2, rfl, h2⟩
      have HR := hid (⟨hb2, h2⟩ : _ ∧ _)
      clear hb2 h2
      go_wp2_with fail
      go_ret
      rw [HPA.out]
      exact ⟨HR.out.1, a2, c2, rfl, HR.out.2⟩
end Go.Proofs.YthnpbopnpdlmnaaDoor
