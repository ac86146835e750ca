/- Reback: a reference to a group. -/
import Derived.Test.YthnpbopnpdlmnaaD24
namespace Go.Proofs.Ythnpbopnpdlmnaa
open Go.RowKit
attribute [local go_sem] gives givesUpon
variable {C : Ctx}

theorem plainOf_back {s : List UInt8} {lines : Bool} {p : Pay} {i k : Nat} {sp : Spans} {x : Int × Int} (ho : p.op = 9) (hx : sp.getD (p.gr.toNat - 1) (-1, -1) = x) :
    plainOf s lines p i k sp = (decide (0 ≤ x.1) && decide ((k : Int) - i = x.2 - x.1) && decide ((s.drop i).take (k - i) = (s.drop x.1.toNat).take (k - i))) := by
  unfold plainOf
  rw [if_neg (by omega), if_neg (by omega), if_neg (by omega), if_neg (by omega)]
  rw [hx]
theorem ext_list (s : ByteArray) (i k : Nat) : (s.extract i k).toList = (s.data.toList.drop i).take (k - i) := by
  rw [ByteArray.toList_eq, ByteArray.data_extract, Array.toList_extract]
set_option maxRecDepth 100000 in
set_option maxHeartbeats 8000000 in
theorem back_any (n : Nat) (K : Kont) (HN : NextC C n K) (w : World) (p : Pay) (xs : List Re) (ta : Option Addr) (tn tc i k : Nat) (sp : Spans) (sv : Value) (fid : Nat) (cap : Array Value) (h : Pre C n (C.B - n) sp K sv (.func (.func fid) #[] cap) w) (ho : p.op = 9) (hwf : p.wf) (hik : i ≤ k) (hks : k ≤ C.s.size) (hgr : 1 ≤ p.gr ∧ p.gr ≤ C.N) :
    Calls Try.prog 86 #[.pointer (some ⟨C.M, 0, none⟩), .agg (p.task (.slice ta tn tc) (.int .i64 i) (.int .i64 k) sv (.func (.func fid) #[] cap)).toArray] w (Good C (Ev C.str C.lines (.try (.mk p xs) i k) sp K (n + 1)) w) := by
  have hfew := h.st.few
  obtain ⟨g, hg, hgl⟩ : ∃ g : Nat, p.gr - 1 = (g : Int) ∧ g < sp.length := ⟨(p.gr - 1).toNat, by omega, by rw [h.ok.1]; omega⟩
  rcases h.span with ⟨h1, -⟩ | ⟨-, sb, sc, more, rfl, hsb, hrow⟩
  · subst h1; simp at hgl
  have hx := spc_get sp g sp[g] (by simp [hgl])
  have hok := h.ok.2 sp[g] (List.getElem_mem _)
  have hgd : sp.getD (p.gr.toNat - 1) (-1, -1) = sp[g] := by
    rw [show p.gr.toNat - 1 = g by omega, List.getD_eq_getElem?_getD, List.getElem?_eq_getElem hgl]; rfl
  have hgs : g * 2 < (spc sp).length := by rw [spc_length]; omega
  have s0 := hrow.cell (g * 2)
  have s1 := hrow.cell (g * 2 + 1)
  rw [List.getElem?_append_left hgs, show g * 2 = 2 * g by omega, hx.1] at s0
  rw [List.getElem?_append_left (by rw [spc_length]; omega), show g * 2 + 1 = 2 * g + 1 by omega, hx.2] at s1
  rw [show 2 * g = g * 2 by omega] at s0
  rw [show 2 * g + 1 = g * 2 + 1 by omega] at s1
  generalize hxe : sp[g] = x at *
  obtain ⟨x1, x2⟩ := x
  dsimp only at s0 s1
  have HP := hid h
  have HRow := hid hrow
  have HOK := hid hok
  have HGD := hid hgd
  clear hxe hx hgs
  generalize hsn : sp.length = sn at *
  have hgl' : (g : Int) < (sn : Int) := by omega
  have hHB := (Below.refl w.heap.size w).alloc (Nat.le_refl _) (.cells #[.int .i64 p.op, .int .u64 p.set.a, .int .u64 p.set.b, .int .u64 p.set.c, .int .u64 p.set.d, .int .i64 p.lo, .int .i64 p.hi, .int .i64 p.gr, .slice ta tn tc, .int .i64 i, .int .i64 k, .slice (some ⟨sb, 0, none⟩) sn sc, .func (.func fid) #[] cap] 138)
  have HB := hid (hHB.alloc (w := w.alloc (.cells #[.int .i64 p.op, .int .u64 p.set.a, .int .u64 p.set.b, .int .u64 p.set.c, .int .u64 p.set.d, .int .i64 p.lo, .int .i64 p.hi, .int .i64 p.gr, .slice ta tn tc, .int .i64 i, .int .i64 k, .slice (some ⟨sb, 0, none⟩) sn sc, .func (.func fid) #[] cap] 138)) (by simp) (.cells #[.int .i64 x1, .int .i64 x2] 47))
  have HB1 := hid hHB
  have HNN := hid HN
  have q := (Row.new (w := w) (B := w.heap.size) (cs := [.int .i64 p.op, .int .u64 p.set.a, .int .u64 p.set.b, .int .u64 p.set.c, .int .u64 p.set.d, .int .i64 p.lo, .int .i64 p.hi, .int .i64 p.gr, .slice ta tn tc, .int .i64 i, .int .i64 k, .slice (some ⟨sb, 0, none⟩) sn sc, .func (.func fid) #[] cap]) (T := 138) rfl).c13
  have hrow1 := (hrow.below ((Below.refl w.heap.size w).alloc (Nat.le_refl _) (.cells #[.int .i64 p.op, .int .u64 p.set.a, .int .u64 p.set.b, .int .u64 p.set.c, .int .u64 p.set.d, .int .i64 p.lo, .int .i64 p.hi, .int .i64 p.gr, .slice ta tn tc, .int .i64 i, .int .i64 k, .slice (some ⟨sb, 0, none⟩) sn sc, .func (.func fid) #[] cap] 138)) hrow.lt)
  have s0' : ((w.alloc (.cells #[.int .i64 p.op, .int .u64 p.set.a, .int .u64 p.set.b, .int .u64 p.set.c, .int .u64 p.set.d, .int .i64 p.lo, .int .i64 p.hi, .int .i64 p.gr, .slice ta tn tc, .int .i64 i, .int .i64 k, .slice (some ⟨sb, 0, none⟩) sn sc, .func (.func fid) #[] cap] 138))).cell? ⟨sb, g * 2, none⟩ = some (.int .i64 x1) := by rw [hrow1.cell, ← hrow.cell]; exact s0
  have s1' : ((w.alloc (.cells #[.int .i64 p.op, .int .u64 p.set.a, .int .u64 p.set.b, .int .u64 p.set.c, .int .u64 p.set.d, .int .i64 p.lo, .int .i64 p.hi, .int .i64 p.gr, .slice ta tn tc, .int .i64 i, .int .i64 k, .slice (some ⟨sb, 0, none⟩) sn sc, .func (.func fid) #[] cap] 138))).cell? ⟨sb, g * 2 + 1, none⟩ = some (.int .i64 x2) := by rw [hrow1.cell, ← hrow.cell]; exact s1
  have HO := hid ho
  have HWF := hid hwf
  have hent := h.k.enter
  have hlen := h.st.len
  clear h HN ho hwf hHB hrow hrow1 s0 s1 hok hgd
  rcases Int.lt_or_le x1 0 with hneg | hpos
  · have d0 : decide (0 ≤ x1) = false := by simp; omega
    have HPL : Hid (plainOf C.str C.lines p i k sp = false) := by show _ = _; rw [plainOf_back HO.out HGD.out, d0]; rfl
    go_enter Try.func86, Try.ntmps86
    go_wp2_with fail
    have HC := hid (fun (x : World) (hx : Grow (((w.alloc (.cells #[.int .i64 p.op, .int .u64 p.set.a, .int .u64 p.set.b, .int .u64 p.set.c, .int .u64 p.set.d, .int .i64 p.lo, .int .i64 p.hi, .int .i64 p.gr, .slice ta tn tc, .int .i64 i, .int .i64 k, .slice (some ⟨sb, 0, none⟩) sn sc, .func (.func fid) #[] cap] 138)).alloc (.cells #[.int .i64 x1, .int .i64 x2] 47))).drew x) => (⟨(((Row.new (w := w) (B := w.heap.size) (cs := [.int .i64 p.op, .int .u64 p.set.a, .int .u64 p.set.b, .int .u64 p.set.c, .int .u64 p.set.d, .int .i64 p.lo, .int .i64 p.hi, .int .i64 p.gr, .slice ta tn tc, .int .i64 i, .int .i64 k, .slice (some ⟨sb, 0, none⟩) sn sc, .func (.func fid) #[] cap]) (T := 138) rfl).alloc (.cells #[.int .i64 x1, .int .i64 x2] 47)).grow hx).c13, ((Row.new (w := (w.alloc (.cells #[.int .i64 p.op, .int .u64 p.set.a, .int .u64 p.set.b, .int .u64 p.set.c, .int .u64 p.set.d, .int .i64 p.lo, .int .i64 p.hi, .int .i64 p.gr, .slice ta tn tc, .int .i64 i, .int .i64 k, .slice (some ⟨sb, 0, none⟩) sn sc, .func (.func fid) #[] cap] 138))) (B := w.heap.size + 1) (cs := [.int .i64 x1, .int .i64 x2]) (T := 47) (by simp)).grow hx).two, ((HP.out.later HB.out).later (grow_below hx)).st.c⟩ : _ ∧ _ ∧ _))
    refine wp_region_inv 38 (Grow) (by kernel_rfl) (by kernel_rfl) (Grow.refl) (fun _ _ _ => Grow.trans) ?_
    simp only [fill, dstOf, Act.put, List.take_succ_cons, List.take_zero, List.getElem?_toArray, List.getElem?_cons_zero, List.getElem?_cons_succ, Option.bind_some, List.setIfInBounds_toArray, List.set_cons_zero, List.set_cons_succ]
    refine Plan.det 1 rfl (Grow.refl) ?_
    apply Exists.intro
    refine ⟨fun vs x hR hF K hK => ?_, ?_⟩
    · clear hF
      go_simp
      exact hK _ _ (Grow.refl _) rfl
    refine Plan.det 2 rfl (Grow.refl) ?_
    apply Exists.intro
    refine ⟨fun vs x hR hF K hK => ?_, ?_⟩
    · have f0 := hF 0 _ _ rfl rfl; have hc := HC.out x hR; clear hF
      go_simp
      exact hK _ _ (Grow.refl _) rfl
    refine Plan.det 3 rfl (Grow.refl) ?_
    apply Exists.intro
    refine ⟨fun vs x hR hF K hK => ?_, ?_⟩
    · have f1 := hF 0 _ _ rfl rfl; clear hF
      go_simp
      exact hK _ _ (Grow.refl _) rfl
    refine Plan.det 4 rfl (Grow.refl) ?_
    apply Exists.intro
    refine ⟨fun vs x hR hF K hK => ?_, ?_⟩
    · have f2 := hF 0 _ _ rfl rfl; clear hF
      go_simp
      exact hK _ _ (Grow.refl _) rfl
    refine Plan.det 5 rfl (Grow.refl) ?_
    apply Exists.intro
    refine ⟨fun vs x hR hF K hK => ?_, ?_⟩
    · have f3 := hF 0 _ _ rfl rfl; clear hF
      go_simp
      exact hK _ _ (Grow.refl _) rfl
    refine Plan.det 6 rfl (Grow.refl) ?_
    apply Exists.intro
    refine ⟨fun vs x hR hF K hK => ?_, ?_⟩
    · have f3 := hF 1 _ _ rfl rfl; have f4 := hF 0 _ _ rfl rfl; have hc := HC.out x hR; clear hF
      go_simp
      exact hK _ _ (Grow.refl _) rfl
    refine Plan.det 7 rfl (Grow.refl) ?_
    apply Exists.intro
    refine ⟨fun vs x hR hF K hK => ?_, ?_⟩
    · have f3 := hF 2 _ _ rfl rfl; clear hF
      go_simp
      exact hK _ _ (Grow.refl _) rfl
    refine Plan.det 8 rfl (Grow.refl) ?_
    apply Exists.intro
    refine ⟨fun vs x hR hF K hK => ?_, ?_⟩
    · have f3 := hF 3 _ _ rfl rfl; have f6 := hF 0 _ _ rfl rfl; have hc := HC.out x hR; clear hF
      go_simp
      exact hK _ _ (Grow.refl _) rfl
    refine Plan.det 9 rfl (Grow.refl) ?_
    apply Exists.intro
    refine ⟨fun vs x hR hF K hK => ?_, ?_⟩
    · have f3 := hF 4 _ _ rfl rfl; clear hF
      go_simp
      exact hK _ _ (Grow.refl _) rfl
    refine Plan.det 10 rfl (Grow.refl) ?_
    apply Exists.intro
    refine ⟨fun vs x hR hF K hK => ?_, ?_⟩
    · have f3 := hF 5 _ _ rfl rfl; have f7 := hF 1 _ _ rfl rfl; have f8 := hF 0 _ _ rfl rfl; clear hF
      go_simp
      exact hK _ _ (Grow.refl _) rfl
    refine Plan.det 11 rfl (Grow.refl) ?_
    apply Exists.intro
    refine ⟨fun vs x hR hF K hK => ?_, ?_⟩
    · have f3 := hF 6 _ _ rfl rfl; have f5 := hF 4 _ _ rfl rfl; have f9 := hF 0 _ _ rfl rfl; clear hF
      go_simp
      exact hK _ _ (Grow.refl _) rfl
    refine Plan.det 12 rfl (Grow.refl) ?_
    apply Exists.intro
    refine ⟨fun vs x hR hF K hK => ?_, ?_⟩
    · have f3 := hF 7 _ _ rfl rfl; have f10 := hF 0 _ _ rfl rfl; clear hF
      go_simp
      exact hK _ _ (Grow.refl _) rfl
    refine Plan.det 13 rfl (Grow.refl) ?_
    apply Exists.intro
    refine ⟨fun vs x hR hF K hK => ?_, ?_⟩
    · have f3 := hF 8 _ _ rfl rfl; have f11 := hF 0 _ _ rfl rfl; clear hF
      go_simp
      exact hK _ _ (Grow.refl _) rfl
    refine Plan.det 14 rfl (Grow.refl) ?_
    apply Exists.intro
    refine ⟨fun vs x hR hF K hK => ?_, ?_⟩
    · have f12 := hF 0 _ _ rfl rfl; clear hF
      go_simp
      exact hK _ _ (Grow.refl _) rfl
    refine Plan.det 15 rfl (Grow.refl) ?_
    apply Exists.intro
    refine ⟨fun vs x hR hF K hK => ?_, ?_⟩
    · have f12 := hF 1 _ _ rfl rfl; have f13 := hF 0 _ _ rfl rfl; clear hF
      go_simp
      exact hK _ _ (Grow.refl _) rfl
    refine Plan.det 16 rfl (Grow.refl) ?_
    apply Exists.intro
    refine ⟨fun vs x hR hF K hK => ?_, ?_⟩
    · have f12 := hF 2 _ _ rfl rfl; have f14 := hF 0 _ _ rfl rfl; clear hF
      go_simp
      exact hK _ _ (Grow.refl _) rfl
    refine Plan.det 17 rfl (Grow.refl) ?_
    apply Exists.intro
    refine ⟨fun vs x hR hF K hK => ?_, ?_⟩
    · have f12 := hF 3 _ _ rfl rfl; have f15 := hF 0 _ _ rfl rfl; have hc := HC.out x hR; clear hF
      go_simp
      exact hK _ _ (Grow.refl _) rfl
    refine Plan.det 18 rfl (Grow.refl) ?_
    apply Exists.intro
    refine ⟨fun vs x hR hF K hK => ?_, ?_⟩
    · have f12 := hF 4 _ _ rfl rfl; clear hF
      go_simp
      exact hK _ _ (Grow.refl _) rfl
    refine Plan.det 19 rfl (Grow.refl) ?_
    apply Exists.intro
    refine ⟨fun vs x hR hF K hK => ?_, ?_⟩
    · have f12 := hF 5 _ _ rfl rfl; have f17 := hF 0 _ _ rfl rfl; have hc := HC.out x hR; clear hF
      go_simp
      exact hK _ _ (Grow.refl _) rfl
    refine Plan.det 20 rfl (Grow.refl) ?_
    apply Exists.intro
    refine ⟨fun vs x hR hF K hK => ?_, ?_⟩
    · have f12 := hF 6 _ _ rfl rfl; clear hF
      go_simp
      exact hK _ _ (Grow.refl _) rfl
    refine Plan.det 21 rfl (Grow.refl) ?_
    apply Exists.intro
    refine ⟨fun vs x hR hF K hK => ?_, ?_⟩
    · have f12 := hF 7 _ _ rfl rfl; have f19 := hF 0 _ _ rfl rfl; have hc := HC.out x hR; clear hF
      go_simp
      exact hK _ _ (Grow.refl _) rfl
    refine Plan.det 22 rfl (Grow.refl) ?_
    apply Exists.intro
    refine ⟨fun vs x hR hF K hK => ?_, ?_⟩
    · have f12 := hF 8 _ _ rfl rfl; have f16 := hF 4 _ _ rfl rfl; have f18 := hF 2 _ _ rfl rfl; have f20 := hF 0 _ _ rfl rfl; clear hF
      go_simp
      exact hK _ _ (Grow.refl _) rfl
    refine Plan.det 23 rfl (Grow.refl) ?_
    apply Exists.intro
    refine ⟨fun vs x hR hF K hK => ?_, ?_⟩
    · have f12 := hF 9 _ _ rfl rfl; clear hF
      go_simp
      exact hK _ _ (Grow.refl _) rfl
    refine Plan.det 24 rfl (Grow.refl) ?_
    apply Exists.intro
    refine ⟨fun vs x hR hF K hK => ?_, ?_⟩
    · have f12 := hF 10 _ _ rfl rfl; have f22 := hF 0 _ _ rfl rfl; clear hF
      go_simp
      exact hK _ _ (Grow.refl _) rfl
    refine Plan.det 25 rfl (Grow.refl) ?_
    apply Exists.intro
    refine ⟨fun vs x hR hF K hK => ?_, ?_⟩
    · have f12 := hF 11 _ _ rfl rfl; have f23 := hF 0 _ _ rfl rfl; clear hF
      go_simp
      exact hK _ _ (Grow.refl _) rfl
    refine Plan.det 26 rfl (Grow.refl) ?_
    apply Exists.intro
    refine ⟨fun vs x hR hF K hK => ?_, ?_⟩
    · have f12 := hF 12 _ _ rfl rfl; have f24 := hF 0 _ _ rfl rfl; have hc := HC.out x hR; clear hF
      go_simp
      exact hK _ _ (Grow.refl _) rfl
    refine Plan.det 27 rfl (Grow.refl) ?_
    apply Exists.intro
    refine ⟨fun vs x hR hF K hK => ?_, ?_⟩
    · have f12 := hF 13 _ _ rfl rfl; clear hF
      go_simp
      exact hK _ _ (Grow.refl _) rfl
    refine Plan.det 28 rfl (Grow.refl) ?_
    apply Exists.intro
    refine ⟨fun vs x hR hF K hK => ?_, ?_⟩
    · have f12 := hF 14 _ _ rfl rfl; have f26 := hF 0 _ _ rfl rfl; have hc := HC.out x hR; clear hF
      go_simp
      exact hK _ _ (Grow.refl _) rfl
    refine Plan.det 29 rfl (Grow.refl) ?_
    apply Exists.intro
    refine ⟨fun vs x hR hF K hK => ?_, ?_⟩
    · have f12 := hF 15 _ _ rfl rfl; clear hF
      go_simp
      exact hK _ _ (Grow.refl _) rfl
    refine Plan.det 30 rfl (Grow.refl) ?_
    apply Exists.intro
    refine ⟨fun vs x hR hF K hK => ?_, ?_⟩
    · have f12 := hF 16 _ _ rfl rfl; have f28 := hF 0 _ _ rfl rfl; have hc := HC.out x hR; clear hF
      go_simp
      exact hK _ _ (Grow.refl _) rfl
    refine Plan.det 31 rfl (Grow.refl) ?_
    apply Exists.intro
    refine ⟨fun vs x hR hF K hK => ?_, ?_⟩
    · have f12 := hF 17 _ _ rfl rfl; have f25 := hF 4 _ _ rfl rfl; have f27 := hF 2 _ _ rfl rfl; have f29 := hF 0 _ _ rfl rfl; clear hF
      go_simp
      exact hK _ _ (Grow.refl _) rfl
    refine Plan.det 32 rfl (Grow.refl) ?_
    apply Exists.intro
    refine ⟨fun vs x hR hF K hK => ?_, ?_⟩
    · have f12 := hF 18 _ _ rfl rfl; have f21 := hF 9 _ _ rfl rfl; have f30 := hF 0 _ _ rfl rfl; clear hF
      go_simp
      exact hK _ _ (Grow.refl _) rfl
    refine Plan.det 33 rfl (Grow.refl) ?_
    apply Exists.intro
    refine ⟨fun vs x hR hF K hK => ?_, ?_⟩
    · have f12 := hF 19 _ _ rfl rfl; have f31 := hF 0 _ _ rfl rfl; clear hF
      go_simp
      exact hK _ _ (Grow.refl _) rfl
    refine Plan.det 34 rfl (Grow.refl) ?_
    apply Exists.intro
    refine ⟨fun vs x hR hF K hK => ?_, ?_⟩
    · have f12 := hF 20 _ _ rfl rfl; have f32 := hF 0 _ _ rfl rfl; clear hF
      go_simp
      exact hK _ _ (Grow.refl _) rfl
    refine Plan.det 35 rfl (Grow.refl) ?_
    apply Exists.intro
    refine ⟨fun vs x hR hF K hK => ?_, ?_⟩
    · have f33 := hF 0 _ _ rfl rfl; clear hF
      go_simp
      exact hK _ _ (Grow.refl _) rfl
    refine Plan.det 36 rfl (Grow.refl) ?_
    apply Exists.intro
    refine ⟨fun vs x hR hF K hK => ?_, ?_⟩
    · have f33 := hF 1 _ _ rfl rfl; have f34 := hF 0 _ _ rfl rfl; have hc := HC.out x hR; clear hF
      go_simp
      exact hK _ _ (Grow.refl _) rfl
    refine Plan.det 37 rfl (Grow.refl) ?_
    apply Exists.intro
    refine ⟨fun vs x hR hF K hK => ?_, ?_⟩
    · have f33 := hF 2 _ _ rfl rfl; clear hF
      go_simp
      exact hK _ _ (Grow.refl _) rfl
    refine Plan.det 38 rfl (Grow.refl) ?_
    apply Exists.intro
    refine ⟨fun vs x hR hF K hK => ?_, ?_⟩
    · have f33 := hF 3 _ _ rfl rfl; have f36 := hF 0 _ _ rfl rfl; have hc := HC.out x hR; clear hF
      go_simp
      exact hK _ _ (Grow.refl _) rfl
    refine Plan.nil (fun vs x hR hF => ?_)
    have f0 := hF 37 _ _ rfl; have f1 := hF 36 _ _ rfl; have f2 := hF 35 _ _ rfl; have f3 := hF 34 _ _ rfl; have f4 := hF 33 _ _ rfl; have f5 := hF 32 _ _ rfl; have f6 := hF 31 _ _ rfl; have f7 := hF 30 _ _ rfl; have f8 := hF 29 _ _ rfl; have f9 := hF 28 _ _ rfl; have f10 := hF 27 _ _ rfl; have f11 := hF 26 _ _ rfl; have f12 := hF 25 _ _ rfl; have f13 := hF 24 _ _ rfl; have f14 := hF 23 _ _ rfl; have f15 := hF 22 _ _ rfl; have f16 := hF 21 _ _ rfl; have f17 := hF 20 _ _ rfl; have f18 := hF 19 _ _ rfl; have f19 := hF 18 _ _ rfl; have f20 := hF 17 _ _ rfl; have f21 := hF 16 _ _ rfl; have f22 := hF 15 _ _ rfl; have f23 := hF 14 _ _ rfl; have f24 := hF 13 _ _ rfl; have f25 := hF 12 _ _ rfl; have f26 := hF 11 _ _ rfl; have f27 := hF 10 _ _ rfl; have f28 := hF 9 _ _ rfl; have f29 := hF 8 _ _ rfl; have f30 := hF 7 _ _ rfl; have f31 := hF 6 _ _ rfl; have f32 := hF 5 _ _ rfl; have f33 := hF 4 _ _ rfl; have f34 := hF 3 _ _ rfl; have f35 := hF 2 _ _ rfl; have f36 := hF 1 _ _ rfl; have f37 := hF 0 _ _ rfl
    clear hF
    simp only [f0, f1, f2, f3, f4, f5, f6, f7, f8, f9, f10, f11, f12, f13, f14, f15, f16, f17, f18, f19, f20, f21, f22, f23, f24, f25, f26, f27, f28, f29, f30, f31, f32, f33, f34, f35, f36, f37]
    clear f0 f1 f2 f3 f4 f5 f6 f7 f8 f9 f10 f11 f12 f13 f14 f15 f16 f17 f18 f19 f20 f21 f22 f23 f24 f25 f26 f27 f28 f29 f30 f31 f32 f33 f34 f35 f36 f37
    simp only [List.drop_succ_cons, List.drop_zero]
    have hbx : Below w.heap.size w x := below_grow HB.out (by simp; omega) hR
    have HBX := hid hbx
    clear HC hR hbx q s0' s1'
    go_wp2_with fail
    go_ret
    exact Good.leafNo HP.out HBX.out (not_part HO.out) HPL.out
  · have hok : 0 ≤ x1 ∧ x1 ≤ x2 ∧ x2 ≤ C.s.size := by
      rcases HOK.out with e | e
      · injection e with e1 e2; omega
      · exact e
    clear HOK
    obtain ⟨a, rfl⟩ : ∃ a : Nat, x1 = a := ⟨x1.toNat, by omega⟩
    obtain ⟨b, rfl⟩ : ∃ b : Nat, x2 = b := ⟨x2.toNat, by omega⟩
    have hw1 : IntKind.i64.wrap ((i : Int) + ((b : Int) - (a : Int))) = (i : Int) + ((b : Int) - (a : Int)) := by rw [IntKind.wrap_i64]; omega
    by_cases hk : (k : Int) = (i : Int) + ((b : Int) - (a : Int))
    · have d0 : ((k : Int) == (i : Int) + ((b : Int) - (a : Int))) = true := by simp; omega
      have hpl : plainOf C.str C.lines p i k sp = decide ((C.s.extract i k).toList = (C.s.extract a b).toList) := by
        rw [plainOf_back HO.out HGD.out, ext_list, ext_list]
        have e : b - a = k - i := by omega
        simp only [Int.toNat_natCast, e]
        rw [decide_eq_true (show (0 : Int) ≤ (a : Int) by omega), decide_eq_true (show (k : Int) - i = (b : Int) - a by omega)]
        rfl
      have HK := hid hk
      clear hk
      by_cases hse : (C.s.extract i k).toList = (C.s.extract a b).toList
      · have HPL : Hid (plainOf C.str C.lines p i k sp = true) := by show _ = _; rw [hpl]; simp [hse]
        have HS := hid hse
        have hse' : ((C.s.extract i k).toList = (C.s.extract a b).toList) = True := by simp [hse]
        have hsb' : ((C.s.extract i k).toList == (C.s.extract a b).toList) = true := by simp [hse]
        clear hpl hse
        go_enter Try.func86, Try.ntmps86
        go_wp2_with fail
        have HC := hid (fun (x : World) (hx : Grow (((w.alloc (.cells #[.int .i64 p.op, .int .u64 p.set.a, .int .u64 p.set.b, .int .u64 p.set.c, .int .u64 p.set.d, .int .i64 p.lo, .int .i64 p.hi, .int .i64 p.gr, .slice ta tn tc, .int .i64 i, .int .i64 k, .slice (some ⟨sb, 0, none⟩) sn sc, .func (.func fid) #[] cap] 138)).alloc (.cells #[.int .i64 a, .int .i64 b] 47))).drew x) => (⟨(((Row.new (w := w) (B := w.heap.size) (cs := [.int .i64 p.op, .int .u64 p.set.a, .int .u64 p.set.b, .int .u64 p.set.c, .int .u64 p.set.d, .int .i64 p.lo, .int .i64 p.hi, .int .i64 p.gr, .slice ta tn tc, .int .i64 i, .int .i64 k, .slice (some ⟨sb, 0, none⟩) sn sc, .func (.func fid) #[] cap]) (T := 138) rfl).alloc (.cells #[.int .i64 a, .int .i64 b] 47)).grow hx).c13, ((Row.new (w := (w.alloc (.cells #[.int .i64 p.op, .int .u64 p.set.a, .int .u64 p.set.b, .int .u64 p.set.c, .int .u64 p.set.d, .int .i64 p.lo, .int .i64 p.hi, .int .i64 p.gr, .slice ta tn tc, .int .i64 i, .int .i64 k, .slice (some ⟨sb, 0, none⟩) sn sc, .func (.func fid) #[] cap] 138))) (B := w.heap.size + 1) (cs := [.int .i64 a, .int .i64 b]) (T := 47) (by simp)).grow hx).two, ((HP.out.later HB.out).later (grow_below hx)).st.c⟩ : _ ∧ _ ∧ _))
        refine wp_region_inv 38 (Grow) (by kernel_rfl) (by kernel_rfl) (Grow.refl) (fun _ _ _ => Grow.trans) ?_
        simp only [fill, dstOf, Act.put, List.take_succ_cons, List.take_zero, List.getElem?_toArray, List.getElem?_cons_zero, List.getElem?_cons_succ, Option.bind_some, List.setIfInBounds_toArray, List.set_cons_zero, List.set_cons_succ]
        refine Plan.det 1 rfl (Grow.refl) ?_
        apply Exists.intro
        refine ⟨fun vs x hR hF K hK => ?_, ?_⟩
        · clear hF
          go_simp
          exact hK _ _ (Grow.refl _) rfl
        refine Plan.det 2 rfl (Grow.refl) ?_
        apply Exists.intro
        refine ⟨fun vs x hR hF K hK => ?_, ?_⟩
        · have f0 := hF 0 _ _ rfl rfl; have hc := HC.out x hR; clear hF
          go_simp
          exact hK _ _ (Grow.refl _) rfl
        refine Plan.det 3 rfl (Grow.refl) ?_
        apply Exists.intro
        refine ⟨fun vs x hR hF K hK => ?_, ?_⟩
        · have f1 := hF 0 _ _ rfl rfl; clear hF
          go_simp
          exact hK _ _ (Grow.refl _) rfl
        refine Plan.det 4 rfl (Grow.refl) ?_
        apply Exists.intro
        refine ⟨fun vs x hR hF K hK => ?_, ?_⟩
        · have f2 := hF 0 _ _ rfl rfl; clear hF
          go_simp
          exact hK _ _ (Grow.refl _) rfl
        refine Plan.det 5 rfl (Grow.refl) ?_
        apply Exists.intro
        refine ⟨fun vs x hR hF K hK => ?_, ?_⟩
        · have f3 := hF 0 _ _ rfl rfl; clear hF
          go_simp
          exact hK _ _ (Grow.refl _) rfl
        refine Plan.det 6 rfl (Grow.refl) ?_
        apply Exists.intro
        refine ⟨fun vs x hR hF K hK => ?_, ?_⟩
        · have f3 := hF 1 _ _ rfl rfl; have f4 := hF 0 _ _ rfl rfl; have hc := HC.out x hR; clear hF
          go_simp
          exact hK _ _ (Grow.refl _) rfl
        refine Plan.det 7 rfl (Grow.refl) ?_
        apply Exists.intro
        refine ⟨fun vs x hR hF K hK => ?_, ?_⟩
        · have f3 := hF 2 _ _ rfl rfl; clear hF
          go_simp
          exact hK _ _ (Grow.refl _) rfl
        refine Plan.det 8 rfl (Grow.refl) ?_
        apply Exists.intro
        refine ⟨fun vs x hR hF K hK => ?_, ?_⟩
        · have f3 := hF 3 _ _ rfl rfl; have f6 := hF 0 _ _ rfl rfl; have hc := HC.out x hR; clear hF
          go_simp
          exact hK _ _ (Grow.refl _) rfl
        refine Plan.det 9 rfl (Grow.refl) ?_
        apply Exists.intro
        refine ⟨fun vs x hR hF K hK => ?_, ?_⟩
        · have f3 := hF 4 _ _ rfl rfl; clear hF
          go_simp
          exact hK _ _ (Grow.refl _) rfl
        refine Plan.det 10 rfl (Grow.refl) ?_
        apply Exists.intro
        refine ⟨fun vs x hR hF K hK => ?_, ?_⟩
        · have f3 := hF 5 _ _ rfl rfl; have f7 := hF 1 _ _ rfl rfl; have f8 := hF 0 _ _ rfl rfl; clear hF
          go_simp
          exact hK _ _ (Grow.refl _) rfl
        refine Plan.det 11 rfl (Grow.refl) ?_
        apply Exists.intro
        refine ⟨fun vs x hR hF K hK => ?_, ?_⟩
        · have f3 := hF 6 _ _ rfl rfl; have f5 := hF 4 _ _ rfl rfl; have f9 := hF 0 _ _ rfl rfl; clear hF
          go_simp
          exact hK _ _ (Grow.refl _) rfl
        refine Plan.det 12 rfl (Grow.refl) ?_
        apply Exists.intro
        refine ⟨fun vs x hR hF K hK => ?_, ?_⟩
        · have f3 := hF 7 _ _ rfl rfl; have f10 := hF 0 _ _ rfl rfl; clear hF
          go_simp
          exact hK _ _ (Grow.refl _) rfl
        refine Plan.det 13 rfl (Grow.refl) ?_
        apply Exists.intro
        refine ⟨fun vs x hR hF K hK => ?_, ?_⟩
        · have f3 := hF 8 _ _ rfl rfl; have f11 := hF 0 _ _ rfl rfl; clear hF
          go_simp
          exact hK _ _ (Grow.refl _) rfl
        refine Plan.det 14 rfl (Grow.refl) ?_
        apply Exists.intro
        refine ⟨fun vs x hR hF K hK => ?_, ?_⟩
        · have f12 := hF 0 _ _ rfl rfl; clear hF
          go_simp
          exact hK _ _ (Grow.refl _) rfl
        refine Plan.det 15 rfl (Grow.refl) ?_
        apply Exists.intro
        refine ⟨fun vs x hR hF K hK => ?_, ?_⟩
        · have f12 := hF 1 _ _ rfl rfl; have f13 := hF 0 _ _ rfl rfl; clear hF
          go_simp
          exact hK _ _ (Grow.refl _) rfl
        refine Plan.det 16 rfl (Grow.refl) ?_
        apply Exists.intro
        refine ⟨fun vs x hR hF K hK => ?_, ?_⟩
        · have f12 := hF 2 _ _ rfl rfl; have f14 := hF 0 _ _ rfl rfl; clear hF
          go_simp
          exact hK _ _ (Grow.refl _) rfl
        refine Plan.det 17 rfl (Grow.refl) ?_
        apply Exists.intro
        refine ⟨fun vs x hR hF K hK => ?_, ?_⟩
        · have f12 := hF 3 _ _ rfl rfl; have f15 := hF 0 _ _ rfl rfl; have hc := HC.out x hR; clear hF
          go_simp
          exact hK _ _ (Grow.refl _) rfl
        refine Plan.det 18 rfl (Grow.refl) ?_
        apply Exists.intro
        refine ⟨fun vs x hR hF K hK => ?_, ?_⟩
        · have f12 := hF 4 _ _ rfl rfl; clear hF
          go_simp
          exact hK _ _ (Grow.refl _) rfl
        refine Plan.det 19 rfl (Grow.refl) ?_
        apply Exists.intro
        refine ⟨fun vs x hR hF K hK => ?_, ?_⟩
        · have f12 := hF 5 _ _ rfl rfl; have f17 := hF 0 _ _ rfl rfl; have hc := HC.out x hR; clear hF
          go_simp
          exact hK _ _ (Grow.refl _) rfl
        refine Plan.det 20 rfl (Grow.refl) ?_
        apply Exists.intro
        refine ⟨fun vs x hR hF K hK => ?_, ?_⟩
        · have f12 := hF 6 _ _ rfl rfl; clear hF
          go_simp
          exact hK _ _ (Grow.refl _) rfl
        refine Plan.det 21 rfl (Grow.refl) ?_
        apply Exists.intro
        refine ⟨fun vs x hR hF K hK => ?_, ?_⟩
        · have f12 := hF 7 _ _ rfl rfl; have f19 := hF 0 _ _ rfl rfl; have hc := HC.out x hR; clear hF
          go_simp
          exact hK _ _ (Grow.refl _) rfl
        refine Plan.det 22 rfl (Grow.refl) ?_
        apply Exists.intro
        refine ⟨fun vs x hR hF K hK => ?_, ?_⟩
        · have f12 := hF 8 _ _ rfl rfl; have f16 := hF 4 _ _ rfl rfl; have f18 := hF 2 _ _ rfl rfl; have f20 := hF 0 _ _ rfl rfl; clear hF
          go_simp
          exact hK _ _ (Grow.refl _) rfl
        refine Plan.det 23 rfl (Grow.refl) ?_
        apply Exists.intro
        refine ⟨fun vs x hR hF K hK => ?_, ?_⟩
        · have f12 := hF 9 _ _ rfl rfl; clear hF
          go_simp
          exact hK _ _ (Grow.refl _) rfl
        refine Plan.det 24 rfl (Grow.refl) ?_
        apply Exists.intro
        refine ⟨fun vs x hR hF K hK => ?_, ?_⟩
        · have f12 := hF 10 _ _ rfl rfl; have f22 := hF 0 _ _ rfl rfl; clear hF
          go_simp
          exact hK _ _ (Grow.refl _) rfl
        refine Plan.det 25 rfl (Grow.refl) ?_
        apply Exists.intro
        refine ⟨fun vs x hR hF K hK => ?_, ?_⟩
        · have f12 := hF 11 _ _ rfl rfl; have f23 := hF 0 _ _ rfl rfl; clear hF
          go_simp
          exact hK _ _ (Grow.refl _) rfl
        refine Plan.det 26 rfl (Grow.refl) ?_
        apply Exists.intro
        refine ⟨fun vs x hR hF K hK => ?_, ?_⟩
        · have f12 := hF 12 _ _ rfl rfl; have f24 := hF 0 _ _ rfl rfl; have hc := HC.out x hR; clear hF
          go_simp
          exact hK _ _ (Grow.refl _) rfl
        refine Plan.det 27 rfl (Grow.refl) ?_
        apply Exists.intro
        refine ⟨fun vs x hR hF K hK => ?_, ?_⟩
        · have f12 := hF 13 _ _ rfl rfl; clear hF
          go_simp
          exact hK _ _ (Grow.refl _) rfl
        refine Plan.det 28 rfl (Grow.refl) ?_
        apply Exists.intro
        refine ⟨fun vs x hR hF K hK => ?_, ?_⟩
        · have f12 := hF 14 _ _ rfl rfl; have f26 := hF 0 _ _ rfl rfl; have hc := HC.out x hR; clear hF
          go_simp
          exact hK _ _ (Grow.refl _) rfl
        refine Plan.det 29 rfl (Grow.refl) ?_
        apply Exists.intro
        refine ⟨fun vs x hR hF K hK => ?_, ?_⟩
        · have f12 := hF 15 _ _ rfl rfl; clear hF
          go_simp
          exact hK _ _ (Grow.refl _) rfl
        refine Plan.det 30 rfl (Grow.refl) ?_
        apply Exists.intro
        refine ⟨fun vs x hR hF K hK => ?_, ?_⟩
        · have f12 := hF 16 _ _ rfl rfl; have f28 := hF 0 _ _ rfl rfl; have hc := HC.out x hR; clear hF
          go_simp
          exact hK _ _ (Grow.refl _) rfl
        refine Plan.det 31 rfl (Grow.refl) ?_
        apply Exists.intro
        refine ⟨fun vs x hR hF K hK => ?_, ?_⟩
        · have f12 := hF 17 _ _ rfl rfl; have f25 := hF 4 _ _ rfl rfl; have f27 := hF 2 _ _ rfl rfl; have f29 := hF 0 _ _ rfl rfl; clear hF
          go_simp
          exact hK _ _ (Grow.refl _) rfl
        refine Plan.det 32 rfl (Grow.refl) ?_
        apply Exists.intro
        refine ⟨fun vs x hR hF K hK => ?_, ?_⟩
        · have f12 := hF 18 _ _ rfl rfl; have f21 := hF 9 _ _ rfl rfl; have f30 := hF 0 _ _ rfl rfl; clear hF
          go_simp
          exact hK _ _ (Grow.refl _) rfl
        refine Plan.det 33 rfl (Grow.refl) ?_
        apply Exists.intro
        refine ⟨fun vs x hR hF K hK => ?_, ?_⟩
        · have f12 := hF 19 _ _ rfl rfl; have f31 := hF 0 _ _ rfl rfl; clear hF
          go_simp
          exact hK _ _ (Grow.refl _) rfl
        refine Plan.det 34 rfl (Grow.refl) ?_
        apply Exists.intro
        refine ⟨fun vs x hR hF K hK => ?_, ?_⟩
        · have f12 := hF 20 _ _ rfl rfl; have f32 := hF 0 _ _ rfl rfl; clear hF
          go_simp
          exact hK _ _ (Grow.refl _) rfl
        refine Plan.det 35 rfl (Grow.refl) ?_
        apply Exists.intro
        refine ⟨fun vs x hR hF K hK => ?_, ?_⟩
        · have f33 := hF 0 _ _ rfl rfl; clear hF
          go_simp
          exact hK _ _ (Grow.refl _) rfl
        refine Plan.det 36 rfl (Grow.refl) ?_
        apply Exists.intro
        refine ⟨fun vs x hR hF K hK => ?_, ?_⟩
        · have f33 := hF 1 _ _ rfl rfl; have f34 := hF 0 _ _ rfl rfl; have hc := HC.out x hR; clear hF
          go_simp
          exact hK _ _ (Grow.refl _) rfl
        refine Plan.det 37 rfl (Grow.refl) ?_
        apply Exists.intro
        refine ⟨fun vs x hR hF K hK => ?_, ?_⟩
        · have f33 := hF 2 _ _ rfl rfl; clear hF
          go_simp
          exact hK _ _ (Grow.refl _) rfl
        refine Plan.det 38 rfl (Grow.refl) ?_
        apply Exists.intro
        refine ⟨fun vs x hR hF K hK => ?_, ?_⟩
        · have f33 := hF 3 _ _ rfl rfl; have f36 := hF 0 _ _ rfl rfl; have hc := HC.out x hR; clear hF
          go_simp
          exact hK _ _ (Grow.refl _) rfl
        refine Plan.nil (fun vs x hR hF => ?_)
        have f0 := hF 37 _ _ rfl; have f1 := hF 36 _ _ rfl; have f2 := hF 35 _ _ rfl; have f3 := hF 34 _ _ rfl; have f4 := hF 33 _ _ rfl; have f5 := hF 32 _ _ rfl; have f6 := hF 31 _ _ rfl; have f7 := hF 30 _ _ rfl; have f8 := hF 29 _ _ rfl; have f9 := hF 28 _ _ rfl; have f10 := hF 27 _ _ rfl; have f11 := hF 26 _ _ rfl; have f12 := hF 25 _ _ rfl; have f13 := hF 24 _ _ rfl; have f14 := hF 23 _ _ rfl; have f15 := hF 22 _ _ rfl; have f16 := hF 21 _ _ rfl; have f17 := hF 20 _ _ rfl; have f18 := hF 19 _ _ rfl; have f19 := hF 18 _ _ rfl; have f20 := hF 17 _ _ rfl; have f21 := hF 16 _ _ rfl; have f22 := hF 15 _ _ rfl; have f23 := hF 14 _ _ rfl; have f24 := hF 13 _ _ rfl; have f25 := hF 12 _ _ rfl; have f26 := hF 11 _ _ rfl; have f27 := hF 10 _ _ rfl; have f28 := hF 9 _ _ rfl; have f29 := hF 8 _ _ rfl; have f30 := hF 7 _ _ rfl; have f31 := hF 6 _ _ rfl; have f32 := hF 5 _ _ rfl; have f33 := hF 4 _ _ rfl; have f34 := hF 3 _ _ rfl; have f35 := hF 2 _ _ rfl; have f36 := hF 1 _ _ rfl; have f37 := hF 0 _ _ rfl
        clear hF
        simp only [f0, f1, f2, f3, f4, f5, f6, f7, f8, f9, f10, f11, f12, f13, f14, f15, f16, f17, f18, f19, f20, f21, f22, f23, f24, f25, f26, f27, f28, f29, f30, f31, f32, f33, f34, f35, f36, f37]
        clear f0 f1 f2 f3 f4 f5 f6 f7 f8 f9 f10 f11 f12 f13 f14 f15 f16 f17 f18 f19 f20 f21 f22 f23 f24 f25 f26 f27 f28 f29 f30 f31 f32 f33 f34 f35 f36 f37
        simp only [List.drop_succ_cons, List.drop_zero]
        have hbx : Below w.heap.size w x := below_grow HB.out (by simp; omega) hR
        have HBX := hid hbx
        clear hR hbx q s0' s1'
        go_wp2_with fail
        refine (HNN.out _ _ _ _ _ (HP.out.later HBX.out)).mono ?_
        rintro e w' ⟨o, m, h1, rfl, h3, h4, h5⟩
        have HG : Hid (Good C (Ev C.str C.lines .next sp K n) w (.returned (.bool o.isFound)) w') := ⟨o, m, h1, rfl, h3, (But.of_below HBX.out).trans h4, h5⟩
        clear h1 h3 h4 h5
        generalize o.isFound = fo at *
        go_wp2_with fail
        go_ret
        exact HG.out.leafYes (not_part HO.out) HPL.out
      · have HPL : Hid (plainOf C.str C.lines p i k sp = false) := by show _ = _; rw [hpl]; simp [hse]
        clear hpl
        go_enter Try.func86, Try.ntmps86
        go_wp2_with fail
        have HC := hid (fun (x : World) (hx : Grow (((w.alloc (.cells #[.int .i64 p.op, .int .u64 p.set.a, .int .u64 p.set.b, .int .u64 p.set.c, .int .u64 p.set.d, .int .i64 p.lo, .int .i64 p.hi, .int .i64 p.gr, .slice ta tn tc, .int .i64 i, .int .i64 k, .slice (some ⟨sb, 0, none⟩) sn sc, .func (.func fid) #[] cap] 138)).alloc (.cells #[.int .i64 a, .int .i64 b] 47))).drew x) => (⟨(((Row.new (w := w) (B := w.heap.size) (cs := [.int .i64 p.op, .int .u64 p.set.a, .int .u64 p.set.b, .int .u64 p.set.c, .int .u64 p.set.d, .int .i64 p.lo, .int .i64 p.hi, .int .i64 p.gr, .slice ta tn tc, .int .i64 i, .int .i64 k, .slice (some ⟨sb, 0, none⟩) sn sc, .func (.func fid) #[] cap]) (T := 138) rfl).alloc (.cells #[.int .i64 a, .int .i64 b] 47)).grow hx).c13, ((Row.new (w := (w.alloc (.cells #[.int .i64 p.op, .int .u64 p.set.a, .int .u64 p.set.b, .int .u64 p.set.c, .int .u64 p.set.d, .int .i64 p.lo, .int .i64 p.hi, .int .i64 p.gr, .slice ta tn tc, .int .i64 i, .int .i64 k, .slice (some ⟨sb, 0, none⟩) sn sc, .func (.func fid) #[] cap] 138))) (B := w.heap.size + 1) (cs := [.int .i64 a, .int .i64 b]) (T := 47) (by simp)).grow hx).two, ((HP.out.later HB.out).later (grow_below hx)).st.c⟩ : _ ∧ _ ∧ _))
        refine wp_region_inv 38 (Grow) (by kernel_rfl) (by kernel_rfl) (Grow.refl) (fun _ _ _ => Grow.trans) ?_
        simp only [fill, dstOf, Act.put, List.take_succ_cons, List.take_zero, List.getElem?_toArray, List.getElem?_cons_zero, List.getElem?_cons_succ, Option.bind_some, List.setIfInBounds_toArray, List.set_cons_zero, List.set_cons_succ]
        refine Plan.det 1 rfl (Grow.refl) ?_
        apply Exists.intro
        refine ⟨fun vs x hR hF K hK => ?_, ?_⟩
        · clear hF
          go_simp
          exact hK _ _ (Grow.refl _) rfl
        refine Plan.det 2 rfl (Grow.refl) ?_
        apply Exists.intro
        refine ⟨fun vs x hR hF K hK => ?_, ?_⟩
        · have f0 := hF 0 _ _ rfl rfl; have hc := HC.out x hR; clear hF
          go_simp
          exact hK _ _ (Grow.refl _) rfl
        refine Plan.det 3 rfl (Grow.refl) ?_
        apply Exists.intro
        refine ⟨fun vs x hR hF K hK => ?_, ?_⟩
        · have f1 := hF 0 _ _ rfl rfl; clear hF
          go_simp
          exact hK _ _ (Grow.refl _) rfl
        refine Plan.det 4 rfl (Grow.refl) ?_
        apply Exists.intro
        refine ⟨fun vs x hR hF K hK => ?_, ?_⟩
        · have f2 := hF 0 _ _ rfl rfl; clear hF
          go_simp
          exact hK _ _ (Grow.refl _) rfl
        refine Plan.det 5 rfl (Grow.refl) ?_
        apply Exists.intro
        refine ⟨fun vs x hR hF K hK => ?_, ?_⟩
        · have f3 := hF 0 _ _ rfl rfl; clear hF
          go_simp
          exact hK _ _ (Grow.refl _) rfl
        refine Plan.det 6 rfl (Grow.refl) ?_
        apply Exists.intro
        refine ⟨fun vs x hR hF K hK => ?_, ?_⟩
        · have f3 := hF 1 _ _ rfl rfl; have f4 := hF 0 _ _ rfl rfl; have hc := HC.out x hR; clear hF
          go_simp
          exact hK _ _ (Grow.refl _) rfl
        refine Plan.det 7 rfl (Grow.refl) ?_
        apply Exists.intro
        refine ⟨fun vs x hR hF K hK => ?_, ?_⟩
        · have f3 := hF 2 _ _ rfl rfl; clear hF
          go_simp
          exact hK _ _ (Grow.refl _) rfl
        refine Plan.det 8 rfl (Grow.refl) ?_
        apply Exists.intro
        refine ⟨fun vs x hR hF K hK => ?_, ?_⟩
        · have f3 := hF 3 _ _ rfl rfl; have f6 := hF 0 _ _ rfl rfl; have hc := HC.out x hR; clear hF
          go_simp
          exact hK _ _ (Grow.refl _) rfl
        refine Plan.det 9 rfl (Grow.refl) ?_
        apply Exists.intro
        refine ⟨fun vs x hR hF K hK => ?_, ?_⟩
        · have f3 := hF 4 _ _ rfl rfl; clear hF
          go_simp
          exact hK _ _ (Grow.refl _) rfl
        refine Plan.det 10 rfl (Grow.refl) ?_
        apply Exists.intro
        refine ⟨fun vs x hR hF K hK => ?_, ?_⟩
        · have f3 := hF 5 _ _ rfl rfl; have f7 := hF 1 _ _ rfl rfl; have f8 := hF 0 _ _ rfl rfl; clear hF
          go_simp
          exact hK _ _ (Grow.refl _) rfl
        refine Plan.det 11 rfl (Grow.refl) ?_
        apply Exists.intro
        refine ⟨fun vs x hR hF K hK => ?_, ?_⟩
        · have f3 := hF 6 _ _ rfl rfl; have f5 := hF 4 _ _ rfl rfl; have f9 := hF 0 _ _ rfl rfl; clear hF
          go_simp
          exact hK _ _ (Grow.refl _) rfl
        refine Plan.det 12 rfl (Grow.refl) ?_
        apply Exists.intro
        refine ⟨fun vs x hR hF K hK => ?_, ?_⟩
        · have f3 := hF 7 _ _ rfl rfl; have f10 := hF 0 _ _ rfl rfl; clear hF
          go_simp
          exact hK _ _ (Grow.refl _) rfl
        refine Plan.det 13 rfl (Grow.refl) ?_
        apply Exists.intro
        refine ⟨fun vs x hR hF K hK => ?_, ?_⟩
        · have f3 := hF 8 _ _ rfl rfl; have f11 := hF 0 _ _ rfl rfl; clear hF
          go_simp
          exact hK _ _ (Grow.refl _) rfl
        refine Plan.det 14 rfl (Grow.refl) ?_
        apply Exists.intro
        refine ⟨fun vs x hR hF K hK => ?_, ?_⟩
        · have f12 := hF 0 _ _ rfl rfl; clear hF
          go_simp
          exact hK _ _ (Grow.refl _) rfl
        refine Plan.det 15 rfl (Grow.refl) ?_
        apply Exists.intro
        refine ⟨fun vs x hR hF K hK => ?_, ?_⟩
        · have f12 := hF 1 _ _ rfl rfl; have f13 := hF 0 _ _ rfl rfl; clear hF
          go_simp
          exact hK _ _ (Grow.refl _) rfl
        refine Plan.det 16 rfl (Grow.refl) ?_
        apply Exists.intro
        refine ⟨fun vs x hR hF K hK => ?_, ?_⟩
        · have f12 := hF 2 _ _ rfl rfl; have f14 := hF 0 _ _ rfl rfl; clear hF
          go_simp
          exact hK _ _ (Grow.refl _) rfl
        refine Plan.det 17 rfl (Grow.refl) ?_
        apply Exists.intro
        refine ⟨fun vs x hR hF K hK => ?_, ?_⟩
        · have f12 := hF 3 _ _ rfl rfl; have f15 := hF 0 _ _ rfl rfl; have hc := HC.out x hR; clear hF
          go_simp
          exact hK _ _ (Grow.refl _) rfl
        refine Plan.det 18 rfl (Grow.refl) ?_
        apply Exists.intro
        refine ⟨fun vs x hR hF K hK => ?_, ?_⟩
        · have f12 := hF 4 _ _ rfl rfl; clear hF
          go_simp
          exact hK _ _ (Grow.refl _) rfl
        refine Plan.det 19 rfl (Grow.refl) ?_
        apply Exists.intro
        refine ⟨fun vs x hR hF K hK => ?_, ?_⟩
        · have f12 := hF 5 _ _ rfl rfl; have f17 := hF 0 _ _ rfl rfl; have hc := HC.out x hR; clear hF
          go_simp
          exact hK _ _ (Grow.refl _) rfl
        refine Plan.det 20 rfl (Grow.refl) ?_
        apply Exists.intro
        refine ⟨fun vs x hR hF K hK => ?_, ?_⟩
        · have f12 := hF 6 _ _ rfl rfl; clear hF
          go_simp
          exact hK _ _ (Grow.refl _) rfl
        refine Plan.det 21 rfl (Grow.refl) ?_
        apply Exists.intro
        refine ⟨fun vs x hR hF K hK => ?_, ?_⟩
        · have f12 := hF 7 _ _ rfl rfl; have f19 := hF 0 _ _ rfl rfl; have hc := HC.out x hR; clear hF
          go_simp
          exact hK _ _ (Grow.refl _) rfl
        refine Plan.det 22 rfl (Grow.refl) ?_
        apply Exists.intro
        refine ⟨fun vs x hR hF K hK => ?_, ?_⟩
        · have f12 := hF 8 _ _ rfl rfl; have f16 := hF 4 _ _ rfl rfl; have f18 := hF 2 _ _ rfl rfl; have f20 := hF 0 _ _ rfl rfl; clear hF
          go_simp
          exact hK _ _ (Grow.refl _) rfl
        refine Plan.det 23 rfl (Grow.refl) ?_
        apply Exists.intro
        refine ⟨fun vs x hR hF K hK => ?_, ?_⟩
        · have f12 := hF 9 _ _ rfl rfl; clear hF
          go_simp
          exact hK _ _ (Grow.refl _) rfl
        refine Plan.det 24 rfl (Grow.refl) ?_
        apply Exists.intro
        refine ⟨fun vs x hR hF K hK => ?_, ?_⟩
        · have f12 := hF 10 _ _ rfl rfl; have f22 := hF 0 _ _ rfl rfl; clear hF
          go_simp
          exact hK _ _ (Grow.refl _) rfl
        refine Plan.det 25 rfl (Grow.refl) ?_
        apply Exists.intro
        refine ⟨fun vs x hR hF K hK => ?_, ?_⟩
        · have f12 := hF 11 _ _ rfl rfl; have f23 := hF 0 _ _ rfl rfl; clear hF
          go_simp
          exact hK _ _ (Grow.refl _) rfl
        refine Plan.det 26 rfl (Grow.refl) ?_
        apply Exists.intro
        refine ⟨fun vs x hR hF K hK => ?_, ?_⟩
        · have f12 := hF 12 _ _ rfl rfl; have f24 := hF 0 _ _ rfl rfl; have hc := HC.out x hR; clear hF
          go_simp
          exact hK _ _ (Grow.refl _) rfl
        refine Plan.det 27 rfl (Grow.refl) ?_
        apply Exists.intro
        refine ⟨fun vs x hR hF K hK => ?_, ?_⟩
        · have f12 := hF 13 _ _ rfl rfl; clear hF
          go_simp
          exact hK _ _ (Grow.refl _) rfl
        refine Plan.det 28 rfl (Grow.refl) ?_
        apply Exists.intro
        refine ⟨fun vs x hR hF K hK => ?_, ?_⟩
        · have f12 := hF 14 _ _ rfl rfl; have f26 := hF 0 _ _ rfl rfl; have hc := HC.out x hR; clear hF
          go_simp
          exact hK _ _ (Grow.refl _) rfl
        refine Plan.det 29 rfl (Grow.refl) ?_
        apply Exists.intro
        refine ⟨fun vs x hR hF K hK => ?_, ?_⟩
        · have f12 := hF 15 _ _ rfl rfl; clear hF
          go_simp
          exact hK _ _ (Grow.refl _) rfl
        refine Plan.det 30 rfl (Grow.refl) ?_
        apply Exists.intro
        refine ⟨fun vs x hR hF K hK => ?_, ?_⟩
        · have f12 := hF 16 _ _ rfl rfl; have f28 := hF 0 _ _ rfl rfl; have hc := HC.out x hR; clear hF
          go_simp
          exact hK _ _ (Grow.refl _) rfl
        refine Plan.det 31 rfl (Grow.refl) ?_
        apply Exists.intro
        refine ⟨fun vs x hR hF K hK => ?_, ?_⟩
        · have f12 := hF 17 _ _ rfl rfl; have f25 := hF 4 _ _ rfl rfl; have f27 := hF 2 _ _ rfl rfl; have f29 := hF 0 _ _ rfl rfl; clear hF
          go_simp
          exact hK _ _ (Grow.refl _) rfl
        refine Plan.det 32 rfl (Grow.refl) ?_
        apply Exists.intro
        refine ⟨fun vs x hR hF K hK => ?_, ?_⟩
        · have f12 := hF 18 _ _ rfl rfl; have f21 := hF 9 _ _ rfl rfl; have f30 := hF 0 _ _ rfl rfl; clear hF
          go_simp
          exact hK _ _ (Grow.refl _) rfl
        refine Plan.det 33 rfl (Grow.refl) ?_
        apply Exists.intro
        refine ⟨fun vs x hR hF K hK => ?_, ?_⟩
        · have f12 := hF 19 _ _ rfl rfl; have f31 := hF 0 _ _ rfl rfl; clear hF
          go_simp
          exact hK _ _ (Grow.refl _) rfl
        refine Plan.det 34 rfl (Grow.refl) ?_
        apply Exists.intro
        refine ⟨fun vs x hR hF K hK => ?_, ?_⟩
        · have f12 := hF 20 _ _ rfl rfl; have f32 := hF 0 _ _ rfl rfl; clear hF
          go_simp
          exact hK _ _ (Grow.refl _) rfl
        refine Plan.det 35 rfl (Grow.refl) ?_
        apply Exists.intro
        refine ⟨fun vs x hR hF K hK => ?_, ?_⟩
        · have f33 := hF 0 _ _ rfl rfl; clear hF
          go_simp
          exact hK _ _ (Grow.refl _) rfl
        refine Plan.det 36 rfl (Grow.refl) ?_
        apply Exists.intro
        refine ⟨fun vs x hR hF K hK => ?_, ?_⟩
        · have f33 := hF 1 _ _ rfl rfl; have f34 := hF 0 _ _ rfl rfl; have hc := HC.out x hR; clear hF
          go_simp
          exact hK _ _ (Grow.refl _) rfl
        refine Plan.det 37 rfl (Grow.refl) ?_
        apply Exists.intro
        refine ⟨fun vs x hR hF K hK => ?_, ?_⟩
        · have f33 := hF 2 _ _ rfl rfl; clear hF
          go_simp
          exact hK _ _ (Grow.refl _) rfl
        refine Plan.det 38 rfl (Grow.refl) ?_
        apply Exists.intro
        refine ⟨fun vs x hR hF K hK => ?_, ?_⟩
        · have f33 := hF 3 _ _ rfl rfl; have f36 := hF 0 _ _ rfl rfl; have hc := HC.out x hR; clear hF
          go_simp
          exact hK _ _ (Grow.refl _) rfl
        refine Plan.nil (fun vs x hR hF => ?_)
        have f0 := hF 37 _ _ rfl; have f1 := hF 36 _ _ rfl; have f2 := hF 35 _ _ rfl; have f3 := hF 34 _ _ rfl; have f4 := hF 33 _ _ rfl; have f5 := hF 32 _ _ rfl; have f6 := hF 31 _ _ rfl; have f7 := hF 30 _ _ rfl; have f8 := hF 29 _ _ rfl; have f9 := hF 28 _ _ rfl; have f10 := hF 27 _ _ rfl; have f11 := hF 26 _ _ rfl; have f12 := hF 25 _ _ rfl; have f13 := hF 24 _ _ rfl; have f14 := hF 23 _ _ rfl; have f15 := hF 22 _ _ rfl; have f16 := hF 21 _ _ rfl; have f17 := hF 20 _ _ rfl; have f18 := hF 19 _ _ rfl; have f19 := hF 18 _ _ rfl; have f20 := hF 17 _ _ rfl; have f21 := hF 16 _ _ rfl; have f22 := hF 15 _ _ rfl; have f23 := hF 14 _ _ rfl; have f24 := hF 13 _ _ rfl; have f25 := hF 12 _ _ rfl; have f26 := hF 11 _ _ rfl; have f27 := hF 10 _ _ rfl; have f28 := hF 9 _ _ rfl; have f29 := hF 8 _ _ rfl; have f30 := hF 7 _ _ rfl; have f31 := hF 6 _ _ rfl; have f32 := hF 5 _ _ rfl; have f33 := hF 4 _ _ rfl; have f34 := hF 3 _ _ rfl; have f35 := hF 2 _ _ rfl; have f36 := hF 1 _ _ rfl; have f37 := hF 0 _ _ rfl
        clear hF
        simp only [f0, f1, f2, f3, f4, f5, f6, f7, f8, f9, f10, f11, f12, f13, f14, f15, f16, f17, f18, f19, f20, f21, f22, f23, f24, f25, f26, f27, f28, f29, f30, f31, f32, f33, f34, f35, f36, f37]
        clear f0 f1 f2 f3 f4 f5 f6 f7 f8 f9 f10 f11 f12 f13 f14 f15 f16 f17 f18 f19 f20 f21 f22 f23 f24 f25 f26 f27 f28 f29 f30 f31 f32 f33 f34 f35 f36 f37
        simp only [List.drop_succ_cons, List.drop_zero]
        have hbx : Below w.heap.size w x := below_grow HB.out (by simp; omega) hR
        have HBX := hid hbx
        clear hR hbx q s0' s1'
        go_wp2_with fail
        go_ret
        exact Good.leafNo HP.out HBX.out (not_part HO.out) HPL.out
    · have d0 : ((k : Int) == (i : Int) + ((b : Int) - (a : Int))) = false := by simp; omega
      have HPL : Hid (plainOf C.str C.lines p i k sp = false) := by show _ = _; rw [plainOf_back HO.out HGD.out]; simp; omega
      go_enter Try.func86, Try.ntmps86
      go_wp2_with fail
      have HC := hid (fun (x : World) (hx : Grow (((w.alloc (.cells #[.int .i64 p.op, .int .u64 p.set.a, .int .u64 p.set.b, .int .u64 p.set.c, .int .u64 p.set.d, .int .i64 p.lo, .int .i64 p.hi, .int .i64 p.gr, .slice ta tn tc, .int .i64 i, .int .i64 k, .slice (some ⟨sb, 0, none⟩) sn sc, .func (.func fid) #[] cap] 138)).alloc (.cells #[.int .i64 a, .int .i64 b] 47))).drew x) => (⟨(((Row.new (w := w) (B := w.heap.size) (cs := [.int .i64 p.op, .int .u64 p.set.a, .int .u64 p.set.b, .int .u64 p.set.c, .int .u64 p.set.d, .int .i64 p.lo, .int .i64 p.hi, .int .i64 p.gr, .slice ta tn tc, .int .i64 i, .int .i64 k, .slice (some ⟨sb, 0, none⟩) sn sc, .func (.func fid) #[] cap]) (T := 138) rfl).alloc (.cells #[.int .i64 a, .int .i64 b] 47)).grow hx).c13, ((Row.new (w := (w.alloc (.cells #[.int .i64 p.op, .int .u64 p.set.a, .int .u64 p.set.b, .int .u64 p.set.c, .int .u64 p.set.d, .int .i64 p.lo, .int .i64 p.hi, .int .i64 p.gr, .slice ta tn tc, .int .i64 i, .int .i64 k, .slice (some ⟨sb, 0, none⟩) sn sc, .func (.func fid) #[] cap] 138))) (B := w.heap.size + 1) (cs := [.int .i64 a, .int .i64 b]) (T := 47) (by simp)).grow hx).two, ((HP.out.later HB.out).later (grow_below hx)).st.c⟩ : _ ∧ _ ∧ _))
      refine wp_region_inv 38 (Grow) (by kernel_rfl) (by kernel_rfl) (Grow.refl) (fun _ _ _ => Grow.trans) ?_
      simp only [fill, dstOf, Act.put, List.take_succ_cons, List.take_zero, List.getElem?_toArray, List.getElem?_cons_zero, List.getElem?_cons_succ, Option.bind_some, List.setIfInBounds_toArray, List.set_cons_zero, List.set_cons_succ]
      refine Plan.det 1 rfl (Grow.refl) ?_
      apply Exists.intro
      refine ⟨fun vs x hR hF K hK => ?_, ?_⟩
      · clear hF
        go_simp
        exact hK _ _ (Grow.refl _) rfl
      refine Plan.det 2 rfl (Grow.refl) ?_
      apply Exists.intro
      refine ⟨fun vs x hR hF K hK => ?_, ?_⟩
      · have f0 := hF 0 _ _ rfl rfl; have hc := HC.out x hR; clear hF
        go_simp
        exact hK _ _ (Grow.refl _) rfl
      refine Plan.det 3 rfl (Grow.refl) ?_
      apply Exists.intro
      refine ⟨fun vs x hR hF K hK => ?_, ?_⟩
      · have f1 := hF 0 _ _ rfl rfl; clear hF
        go_simp
        exact hK _ _ (Grow.refl _) rfl
      refine Plan.det 4 rfl (Grow.refl) ?_
      apply Exists.intro
      refine ⟨fun vs x hR hF K hK => ?_, ?_⟩
      · have f2 := hF 0 _ _ rfl rfl; clear hF
        go_simp
        exact hK _ _ (Grow.refl _) rfl
      refine Plan.det 5 rfl (Grow.refl) ?_
      apply Exists.intro
      refine ⟨fun vs x hR hF K hK => ?_, ?_⟩
      · have f3 := hF 0 _ _ rfl rfl; clear hF
        go_simp
        exact hK _ _ (Grow.refl _) rfl
      refine Plan.det 6 rfl (Grow.refl) ?_
      apply Exists.intro
      refine ⟨fun vs x hR hF K hK => ?_, ?_⟩
      · have f3 := hF 1 _ _ rfl rfl; have f4 := hF 0 _ _ rfl rfl; have hc := HC.out x hR; clear hF
        go_simp
        exact hK _ _ (Grow.refl _) rfl
      refine Plan.det 7 rfl (Grow.refl) ?_
      apply Exists.intro
      refine ⟨fun vs x hR hF K hK => ?_, ?_⟩
      · have f3 := hF 2 _ _ rfl rfl; clear hF
        go_simp
        exact hK _ _ (Grow.refl _) rfl
      refine Plan.det 8 rfl (Grow.refl) ?_
      apply Exists.intro
      refine ⟨fun vs x hR hF K hK => ?_, ?_⟩
      · have f3 := hF 3 _ _ rfl rfl; have f6 := hF 0 _ _ rfl rfl; have hc := HC.out x hR; clear hF
        go_simp
        exact hK _ _ (Grow.refl _) rfl
      refine Plan.det 9 rfl (Grow.refl) ?_
      apply Exists.intro
      refine ⟨fun vs x hR hF K hK => ?_, ?_⟩
      · have f3 := hF 4 _ _ rfl rfl; clear hF
        go_simp
        exact hK _ _ (Grow.refl _) rfl
      refine Plan.det 10 rfl (Grow.refl) ?_
      apply Exists.intro
      refine ⟨fun vs x hR hF K hK => ?_, ?_⟩
      · have f3 := hF 5 _ _ rfl rfl; have f7 := hF 1 _ _ rfl rfl; have f8 := hF 0 _ _ rfl rfl; clear hF
        go_simp
        exact hK _ _ (Grow.refl _) rfl
      refine Plan.det 11 rfl (Grow.refl) ?_
      apply Exists.intro
      refine ⟨fun vs x hR hF K hK => ?_, ?_⟩
      · have f3 := hF 6 _ _ rfl rfl; have f5 := hF 4 _ _ rfl rfl; have f9 := hF 0 _ _ rfl rfl; clear hF
        go_simp
        exact hK _ _ (Grow.refl _) rfl
      refine Plan.det 12 rfl (Grow.refl) ?_
      apply Exists.intro
      refine ⟨fun vs x hR hF K hK => ?_, ?_⟩
      · have f3 := hF 7 _ _ rfl rfl; have f10 := hF 0 _ _ rfl rfl; clear hF
        go_simp
        exact hK _ _ (Grow.refl _) rfl
      refine Plan.det 13 rfl (Grow.refl) ?_
      apply Exists.intro
      refine ⟨fun vs x hR hF K hK => ?_, ?_⟩
      · have f3 := hF 8 _ _ rfl rfl; have f11 := hF 0 _ _ rfl rfl; clear hF
        go_simp
        exact hK _ _ (Grow.refl _) rfl
      refine Plan.det 14 rfl (Grow.refl) ?_
      apply Exists.intro
      refine ⟨fun vs x hR hF K hK => ?_, ?_⟩
      · have f12 := hF 0 _ _ rfl rfl; clear hF
        go_simp
        exact hK _ _ (Grow.refl _) rfl
      refine Plan.det 15 rfl (Grow.refl) ?_
      apply Exists.intro
      refine ⟨fun vs x hR hF K hK => ?_, ?_⟩
      · have f12 := hF 1 _ _ rfl rfl; have f13 := hF 0 _ _ rfl rfl; clear hF
        go_simp
        exact hK _ _ (Grow.refl _) rfl
      refine Plan.det 16 rfl (Grow.refl) ?_
      apply Exists.intro
      refine ⟨fun vs x hR hF K hK => ?_, ?_⟩
      · have f12 := hF 2 _ _ rfl rfl; have f14 := hF 0 _ _ rfl rfl; clear hF
        go_simp
        exact hK _ _ (Grow.refl _) rfl
      refine Plan.det 17 rfl (Grow.refl) ?_
      apply Exists.intro
      refine ⟨fun vs x hR hF K hK => ?_, ?_⟩
      · have f12 := hF 3 _ _ rfl rfl; have f15 := hF 0 _ _ rfl rfl; have hc := HC.out x hR; clear hF
        go_simp
        exact hK _ _ (Grow.refl _) rfl
      refine Plan.det 18 rfl (Grow.refl) ?_
      apply Exists.intro
      refine ⟨fun vs x hR hF K hK => ?_, ?_⟩
      · have f12 := hF 4 _ _ rfl rfl; clear hF
        go_simp
        exact hK _ _ (Grow.refl _) rfl
      refine Plan.det 19 rfl (Grow.refl) ?_
      apply Exists.intro
      refine ⟨fun vs x hR hF K hK => ?_, ?_⟩
      · have f12 := hF 5 _ _ rfl rfl; have f17 := hF 0 _ _ rfl rfl; have hc := HC.out x hR; clear hF
        go_simp
        exact hK _ _ (Grow.refl _) rfl
      refine Plan.det 20 rfl (Grow.refl) ?_
      apply Exists.intro
      refine ⟨fun vs x hR hF K hK => ?_, ?_⟩
      · have f12 := hF 6 _ _ rfl rfl; clear hF
        go_simp
        exact hK _ _ (Grow.refl _) rfl
      refine Plan.det 21 rfl (Grow.refl) ?_
      apply Exists.intro
      refine ⟨fun vs x hR hF K hK => ?_, ?_⟩
      · have f12 := hF 7 _ _ rfl rfl; have f19 := hF 0 _ _ rfl rfl; have hc := HC.out x hR; clear hF
        go_simp
        exact hK _ _ (Grow.refl _) rfl
      refine Plan.det 22 rfl (Grow.refl) ?_
      apply Exists.intro
      refine ⟨fun vs x hR hF K hK => ?_, ?_⟩
      · have f12 := hF 8 _ _ rfl rfl; have f16 := hF 4 _ _ rfl rfl; have f18 := hF 2 _ _ rfl rfl; have f20 := hF 0 _ _ rfl rfl; clear hF
        go_simp
        exact hK _ _ (Grow.refl _) rfl
      refine Plan.det 23 rfl (Grow.refl) ?_
      apply Exists.intro
      refine ⟨fun vs x hR hF K hK => ?_, ?_⟩
      · have f12 := hF 9 _ _ rfl rfl; clear hF
        go_simp
        exact hK _ _ (Grow.refl _) rfl
      refine Plan.det 24 rfl (Grow.refl) ?_
      apply Exists.intro
      refine ⟨fun vs x hR hF K hK => ?_, ?_⟩
      · have f12 := hF 10 _ _ rfl rfl; have f22 := hF 0 _ _ rfl rfl; clear hF
        go_simp
        exact hK _ _ (Grow.refl _) rfl
      refine Plan.det 25 rfl (Grow.refl) ?_
      apply Exists.intro
      refine ⟨fun vs x hR hF K hK => ?_, ?_⟩
      · have f12 := hF 11 _ _ rfl rfl; have f23 := hF 0 _ _ rfl rfl; clear hF
        go_simp
        exact hK _ _ (Grow.refl _) rfl
      refine Plan.det 26 rfl (Grow.refl) ?_
      apply Exists.intro
      refine ⟨fun vs x hR hF K hK => ?_, ?_⟩
      · have f12 := hF 12 _ _ rfl rfl; have f24 := hF 0 _ _ rfl rfl; have hc := HC.out x hR; clear hF
        go_simp
        exact hK _ _ (Grow.refl _) rfl
      refine Plan.det 27 rfl (Grow.refl) ?_
      apply Exists.intro
      refine ⟨fun vs x hR hF K hK => ?_, ?_⟩
      · have f12 := hF 13 _ _ rfl rfl; clear hF
        go_simp
        exact hK _ _ (Grow.refl _) rfl
      refine Plan.det 28 rfl (Grow.refl) ?_
      apply Exists.intro
      refine ⟨fun vs x hR hF K hK => ?_, ?_⟩
      · have f12 := hF 14 _ _ rfl rfl; have f26 := hF 0 _ _ rfl rfl; have hc := HC.out x hR; clear hF
        go_simp
        exact hK _ _ (Grow.refl _) rfl
      refine Plan.det 29 rfl (Grow.refl) ?_
      apply Exists.intro
      refine ⟨fun vs x hR hF K hK => ?_, ?_⟩
      · have f12 := hF 15 _ _ rfl rfl; clear hF
        go_simp
        exact hK _ _ (Grow.refl _) rfl
      refine Plan.det 30 rfl (Grow.refl) ?_
      apply Exists.intro
      refine ⟨fun vs x hR hF K hK => ?_, ?_⟩
      · have f12 := hF 16 _ _ rfl rfl; have f28 := hF 0 _ _ rfl rfl; have hc := HC.out x hR; clear hF
        go_simp
        exact hK _ _ (Grow.refl _) rfl
      refine Plan.det 31 rfl (Grow.refl) ?_
      apply Exists.intro
      refine ⟨fun vs x hR hF K hK => ?_, ?_⟩
      · have f12 := hF 17 _ _ rfl rfl; have f25 := hF 4 _ _ rfl rfl; have f27 := hF 2 _ _ rfl rfl; have f29 := hF 0 _ _ rfl rfl; clear hF
        go_simp
        exact hK _ _ (Grow.refl _) rfl
      refine Plan.det 32 rfl (Grow.refl) ?_
      apply Exists.intro
      refine ⟨fun vs x hR hF K hK => ?_, ?_⟩
      · have f12 := hF 18 _ _ rfl rfl; have f21 := hF 9 _ _ rfl rfl; have f30 := hF 0 _ _ rfl rfl; clear hF
        go_simp
        exact hK _ _ (Grow.refl _) rfl
      refine Plan.det 33 rfl (Grow.refl) ?_
      apply Exists.intro
      refine ⟨fun vs x hR hF K hK => ?_, ?_⟩
      · have f12 := hF 19 _ _ rfl rfl; have f31 := hF 0 _ _ rfl rfl; clear hF
        go_simp
        exact hK _ _ (Grow.refl _) rfl
      refine Plan.det 34 rfl (Grow.refl) ?_
      apply Exists.intro
      refine ⟨fun vs x hR hF K hK => ?_, ?_⟩
      · have f12 := hF 20 _ _ rfl rfl; have f32 := hF 0 _ _ rfl rfl; clear hF
        go_simp
        exact hK _ _ (Grow.refl _) rfl
      refine Plan.det 35 rfl (Grow.refl) ?_
      apply Exists.intro
      refine ⟨fun vs x hR hF K hK => ?_, ?_⟩
      · have f33 := hF 0 _ _ rfl rfl; clear hF
        go_simp
        exact hK _ _ (Grow.refl _) rfl
      refine Plan.det 36 rfl (Grow.refl) ?_
      apply Exists.intro
      refine ⟨fun vs x hR hF K hK => ?_, ?_⟩
      · have f33 := hF 1 _ _ rfl rfl; have f34 := hF 0 _ _ rfl rfl; have hc := HC.out x hR; clear hF
        go_simp
        exact hK _ _ (Grow.refl _) rfl
      refine Plan.det 37 rfl (Grow.refl) ?_
      apply Exists.intro
      refine ⟨fun vs x hR hF K hK => ?_, ?_⟩
      · have f33 := hF 2 _ _ rfl rfl; clear hF
        go_simp
        exact hK _ _ (Grow.refl _) rfl
      refine Plan.det 38 rfl (Grow.refl) ?_
      apply Exists.intro
      refine ⟨fun vs x hR hF K hK => ?_, ?_⟩
      · have f33 := hF 3 _ _ rfl rfl; have f36 := hF 0 _ _ rfl rfl; have hc := HC.out x hR; clear hF
        go_simp
        exact hK _ _ (Grow.refl _) rfl
      refine Plan.nil (fun vs x hR hF => ?_)
      have f0 := hF 37 _ _ rfl; have f1 := hF 36 _ _ rfl; have f2 := hF 35 _ _ rfl; have f3 := hF 34 _ _ rfl; have f4 := hF 33 _ _ rfl; have f5 := hF 32 _ _ rfl; have f6 := hF 31 _ _ rfl; have f7 := hF 30 _ _ rfl; have f8 := hF 29 _ _ rfl; have f9 := hF 28 _ _ rfl; have f10 := hF 27 _ _ rfl; have f11 := hF 26 _ _ rfl; have f12 := hF 25 _ _ rfl; have f13 := hF 24 _ _ rfl; have f14 := hF 23 _ _ rfl; have f15 := hF 22 _ _ rfl; have f16 := hF 21 _ _ rfl; have f17 := hF 20 _ _ rfl; have f18 := hF 19 _ _ rfl; have f19 := hF 18 _ _ rfl; have f20 := hF 17 _ _ rfl; have f21 := hF 16 _ _ rfl; have f22 := hF 15 _ _ rfl; have f23 := hF 14 _ _ rfl; have f24 := hF 13 _ _ rfl; have f25 := hF 12 _ _ rfl; have f26 := hF 11 _ _ rfl; have f27 := hF 10 _ _ rfl; have f28 := hF 9 _ _ rfl; have f29 := hF 8 _ _ rfl; have f30 := hF 7 _ _ rfl; have f31 := hF 6 _ _ rfl; have f32 := hF 5 _ _ rfl; have f33 := hF 4 _ _ rfl; have f34 := hF 3 _ _ rfl; have f35 := hF 2 _ _ rfl; have f36 := hF 1 _ _ rfl; have f37 := hF 0 _ _ rfl
      clear hF
      simp only [f0, f1, f2, f3, f4, f5, f6, f7, f8, f9, f10, f11, f12, f13, f14, f15, f16, f17, f18, f19, f20, f21, f22, f23, f24, f25, f26, f27, f28, f29, f30, f31, f32, f33, f34, f35, f36, f37]
      clear f0 f1 f2 f3 f4 f5 f6 f7 f8 f9 f10 f11 f12 f13 f14 f15 f16 f17 f18 f19 f20 f21 f22 f23 f24 f25 f26 f27 f28 f29 f30 f31 f32 f33 f34 f35 f36 f37
      simp only [List.drop_succ_cons, List.drop_zero]
      have hbx : Below w.heap.size w x := below_grow HB.out (by simp; omega) hR
      have HBX := hid hbx
      clear HC hR hbx q s0' s1'
      go_wp2_with fail
      go_ret
      exact Good.leafNo HP.out HBX.out (not_part HO.out) HPL.out
end Go.Proofs.Ythnpbopnpdlmnaa
