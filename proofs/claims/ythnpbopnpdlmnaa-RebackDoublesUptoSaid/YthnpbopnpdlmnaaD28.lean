/- Reback: a try. -/
import Derived.Test.YthnpbopnpdlmnaaD25
import Derived.Test.YthnpbopnpdlmnaaD26
import Derived.Test.YthnpbopnpdlmnaaD27
namespace Go.Proofs.Ythnpbopnpdlmnaa
open Go.RowKit
attribute [local go_sem] gives givesUpon
variable {C : Ctx}

def ArmC (C : Ctx) (n : Nat) (op : Int) (f : Nat) (args : Value → Array Value) : Prop :=
  ∀ (w : World) (p : Pay) (xs : List Re) (ta : Option Addr) (tc i k : Nat) (sp : Spans) (K : Kont) (sa : Option Addr) (sc fid : Nat) (cap : Array Value), Pre C n (C.B - n) sp K (.slice sa sp.length sc) (.func (.func fid) #[] cap) w → p.op = op → (Re.mk p xs).In C.w0 (p.cells (.slice ta xs.length tc)) → (Re.mk p xs).ok C.N → i ≤ k → k ≤ C.s.size →
    Calls Try.prog f (args (.agg #[.int .i64 p.op, .int .u64 p.set.a, .int .u64 p.set.b, .int .u64 p.set.c, .int .u64 p.set.d, .int .i64 p.lo, .int .i64 p.hi, .int .i64 p.gr, .slice ta xs.length tc, .int .i64 i, .int .i64 k, .slice sa sp.length sc, .func (.func fid) #[] cap])) w (Good C (Ev C.str C.lines (.try (.mk p xs) i k) sp K (n + 1)) w)
theorem Re.In.wf {w : World} {p : Pay} {xs : List Re} {cs : List Value} (h : (Re.mk p xs).In w cs) : p.wf := by
  rw [Re.In] at h; obtain ⟨_, _, _, h, _⟩ := h; exact h
theorem arm1 (n : Nat) (HN : ∀ K, NextC C n K) : ArmC C n 1 75 (fun t => #[t]) := fun w p xs ta tc i k sp K sa sc fid cap h ho hin hok hik hks => empty_any n K (HN K) w p xs ta _ tc i k sp sa _ sc fid cap h ho (by have := h.st.len; omega) (by have := h.st.len; omega)
theorem arm2 (n : Nat) (HN : ∀ K, NextC C n K) : ArmC C n 2 76 (fun t => #[t, .pointer (some ⟨C.MB, 0, none⟩)]) := fun w p xs ta tc i k sp K sa sc fid cap h ho hin _ hik hks => set_any n K (HN K) w p xs ta _ tc i k sp sa _ sc fid cap h ho hin.wf hik hks
theorem arm7 (n : Nat) (HN : ∀ K, NextC C n K) : ArmC C n 7 77 (fun t => #[t, .pointer (some ⟨C.MB, 0, none⟩)]) := fun w p xs ta tc i k sp K sa sc fid cap h ho hin _ hik hks => beginA_any n K (HN K) w p xs ta _ tc i k sp sa _ sc fid cap h ho hin.wf hik hks
theorem arm8 (n : Nat) (HN : ∀ K, NextC C n K) : ArmC C n 8 78 (fun t => #[t, .pointer (some ⟨C.MB, 0, none⟩)]) := fun w p xs ta tc i k sp K sa sc fid cap h ho hin _ hik hks => endA_any n K (HN K) w p xs ta _ tc i k sp sa _ sc fid cap h ho hin.wf hik hks
theorem arm9 (n : Nat) (HN : ∀ K, NextC C n K) : ArmC C n 9 86 (fun t => #[.pointer (some ⟨C.M, 0, none⟩), t]) := fun w p xs ta tc i k sp K sa sc fid cap h ho hin hok hik hks => back_any n K (HN K) w p xs ta _ tc i k sp _ fid cap h ho hin.wf hik hks (by rw [Re.ok] at hok; exact hok.2.2.2.1 (.inr ho))

theorem Ctx.St.step {n : Nat} {w : World} (h : C.St (n + 1) false w) : C.St n false (w.setCell ⟨C.M, 2, none⟩ (.int .i64 ((C.B - n : Nat) : Int))) ∧ But C.S w (w.setCell ⟨C.M, 2, none⟩ (.int .i64 ((C.B - n : Nat) : Int))) := by
  obtain ⟨h1, h2, h3, ⟨old, h4⟩, h5, h6, h7, h8, h9, h10⟩ := h
  have hmb : C.MB ≠ C.M := fun e => by rw [e] at h3; exact absurd (h3.typed h2) (by decide)
  have hgm : C.G ≠ C.M := fun e => by rw [e] at h4; exact absurd (h4.typed h2) (by decide)
  refine ⟨⟨h1.setCell (by exact h5) _, h2.set 2 (.int .i64 ((C.B - n : Nat) : Int)), h3.other hmb _ _, ⟨old, h4.other hgm _ _⟩, h5, h6, by omega, h8, h9, h10⟩, ?_⟩
  exact (But.refl C.S w).setCell (.inl (by simp [Ctx.S])) _

set_option maxRecDepth 100000 in
set_option maxHeartbeats 8000000 in
theorem try_zero : TryC C 0 := by
  intro w e cs i k sp K sv nv hin hok hik hks h
  obtain ⟨p, xs⟩ := e
  have hin' := hin
  rw [Re.In] at hin'
  obtain ⟨ta, tc, rfl, hwf, -⟩ := hin'
  obtain ⟨sa, sc, rfl⟩ := h.span.form
  obtain ⟨fid, cap, rfl⟩ := h.k.form
  have HP := hid h
  have qc := (h.later ((Below.refl w.heap.size w).alloc (Nat.le_refl _) (.cells #[.int .i64 p.op, .int .u64 p.set.a, .int .u64 p.set.b, .int .u64 p.set.c, .int .u64 p.set.d, .int .i64 p.lo, .int .i64 p.hi, .int .i64 p.gr, .slice ta xs.length tc, .int .i64 i, .int .i64 k, .slice sa sp.length sc, .func (.func fid) #[] cap] 138))).st.c
  have HC := hid (fun (x : World) (hx : Grow (((w.alloc (.cells #[.int .i64 p.op, .int .u64 p.set.a, .int .u64 p.set.b, .int .u64 p.set.c, .int .u64 p.set.d, .int .i64 p.lo, .int .i64 p.hi, .int .i64 p.gr, .slice ta xs.length tc, .int .i64 i, .int .i64 k, .slice sa sp.length sc, .func (.func fid) #[] cap] 138)))).drew x) => (leafHC (cs := [.int .i64 p.op, .int .u64 p.set.a, .int .u64 p.set.b, .int .u64 p.set.c, .int .u64 p.set.d, .int .i64 p.lo, .int .i64 p.hi, .int .i64 p.gr, .slice ta xs.length tc, .int .i64 i, .int .i64 k, .slice sa sp.length sc, .func (.func fid) #[] cap]) h hx).2.c)
  have hmf : ∀ x : World, Grow (((w.alloc (.cells #[.int .i64 p.op, .int .u64 p.set.a, .int .u64 p.set.b, .int .u64 p.set.c, .int .u64 p.set.d, .int .i64 p.lo, .int .i64 p.hi, .int .i64 p.gr, .slice ta xs.length tc, .int .i64 i, .int .i64 k, .slice sa sp.length sc, .func (.func fid) #[] cap] 138)))).drew x → x.frozen? ⟨C.M, 4, none⟩ = false := fun x hx => (leafHC (cs := [.int .i64 p.op, .int .u64 p.set.a, .int .u64 p.set.b, .int .u64 p.set.c, .int .u64 p.set.d, .int .i64 p.lo, .int .i64 p.hi, .int .i64 p.gr, .slice ta xs.length tc, .int .i64 i, .int .i64 k, .slice sa sp.length sc, .func (.func fid) #[] cap]) h hx).2.m.free 4
  have HMF := hid hmf
  have d0 : (((C.B - 0 : Nat) : Int) == (C.B : Int)) = true := by simp
  have HB := hid ((Below.refl w.heap.size w).alloc (Nat.le_refl _) (.cells #[.int .i64 p.op, .int .u64 p.set.a, .int .u64 p.set.b, .int .u64 p.set.c, .int .u64 p.set.d, .int .i64 p.lo, .int .i64 p.hi, .int .i64 p.gr, .slice ta xs.length tc, .int .i64 i, .int .i64 k, .slice sa sp.length sc, .func (.func fid) #[] cap] 138))
  clear h hmf hin hok hwf
  simp only [Pay.cells, List.cons_append, List.nil_append]
  go_enter Try.func89, Try.ntmps89
  go_wp2_with fail
  refine wp_region_inv 15 (Grow) (by kernel_rfl) (by kernel_rfl) (Grow.refl) (fun _ _ _ => Grow.trans) ?_
  simp only [fill, dstOf, Act.put, List.take_succ_cons, List.take_zero, List.getElem?_toArray, List.getElem?_cons_zero, List.getElem?_cons_succ, Option.bind_some, List.setIfInBounds_toArray, List.set_cons_zero, List.set_cons_succ]
  refine Plan.det 1 rfl (Grow.refl) ?_
  apply Exists.intro
  refine ⟨fun vs x hR hF K hK => ?_, ?_⟩
  · clear hF
    go_simp
    exact hK _ _ (Grow.refl _) rfl
  refine Plan.det 2 rfl (Grow.refl) ?_
  apply Exists.intro
  refine ⟨fun vs x hR hF K hK => ?_, ?_⟩
  · have f0 := hF 0 _ _ rfl rfl; clear hF
    go_simp
    exact hK _ _ (Grow.refl _) rfl
  refine Plan.det 3 rfl (Grow.refl) ?_
  apply Exists.intro
  refine ⟨fun vs x hR hF K hK => ?_, ?_⟩
  · have f1 := hF 0 _ _ rfl rfl; clear hF
    go_simp
    exact hK _ _ (Grow.refl _) rfl
  refine Plan.det 4 rfl (Grow.refl) ?_
  apply Exists.intro
  refine ⟨fun vs x hR hF K hK => ?_, ?_⟩
  · have f2 := hF 0 _ _ rfl rfl; have hc := HC.out x hR; clear hF
    go_simp
    exact hK _ _ (Grow.refl _) rfl
  refine Plan.det 5 rfl (Grow.refl) ?_
  apply Exists.intro
  refine ⟨fun vs x hR hF K hK => ?_, ?_⟩
  · have f3 := hF 0 _ _ rfl rfl; clear hF
    go_simp
    exact hK _ _ (Grow.refl _) rfl
  refine Plan.det 6 rfl (Grow.refl) ?_
  apply Exists.intro
  refine ⟨fun vs x hR hF K hK => ?_, ?_⟩
  · have f4 := hF 0 _ _ rfl rfl; clear hF
    go_simp
    exact hK _ _ (Grow.refl _) rfl
  refine Plan.det 7 rfl (Grow.refl) ?_
  apply Exists.intro
  refine ⟨fun vs x hR hF K hK => ?_, ?_⟩
  · have f4 := hF 1 _ _ rfl rfl; have f5 := hF 0 _ _ rfl rfl; clear hF
    go_simp
    exact hK _ _ (Grow.refl _) rfl
  refine Plan.det 8 rfl (Grow.refl) ?_
  apply Exists.intro
  refine ⟨fun vs x hR hF K hK => ?_, ?_⟩
  · have f4 := hF 2 _ _ rfl rfl; have f6 := hF 0 _ _ rfl rfl; clear hF
    go_simp
    exact hK _ _ (Grow.refl _) rfl
  refine Plan.det 9 rfl (Grow.refl) ?_
  apply Exists.intro
  refine ⟨fun vs x hR hF K hK => ?_, ?_⟩
  · have f4 := hF 3 _ _ rfl rfl; have f7 := hF 0 _ _ rfl rfl; have hc := HC.out x hR; clear hF
    go_simp
    exact hK _ _ (Grow.refl _) rfl
  refine Plan.det 10 rfl (Grow.refl) ?_
  apply Exists.intro
  refine ⟨fun vs x hR hF K hK => ?_, ?_⟩
  · have f4 := hF 4 _ _ rfl rfl; clear hF
    go_simp
    exact hK _ _ (Grow.refl _) rfl
  refine Plan.det 11 rfl (Grow.refl) ?_
  apply Exists.intro
  refine ⟨fun vs x hR hF K hK => ?_, ?_⟩
  · have f4 := hF 5 _ _ rfl rfl; have f9 := hF 0 _ _ rfl rfl; clear hF
    go_simp
    exact hK _ _ (Grow.refl _) rfl
  refine Plan.det 12 rfl (Grow.refl) ?_
  apply Exists.intro
  refine ⟨fun vs x hR hF K hK => ?_, ?_⟩
  · have f4 := hF 6 _ _ rfl rfl; have f10 := hF 0 _ _ rfl rfl; clear hF
    go_simp
    exact hK _ _ (Grow.refl _) rfl
  refine Plan.det 13 rfl (Grow.refl) ?_
  apply Exists.intro
  refine ⟨fun vs x hR hF K hK => ?_, ?_⟩
  · have f4 := hF 7 _ _ rfl rfl; have f11 := hF 0 _ _ rfl rfl; have hc := HC.out x hR; clear hF
    go_simp
    exact hK _ _ (Grow.refl _) rfl
  refine Plan.det 14 rfl (Grow.refl) ?_
  apply Exists.intro
  refine ⟨fun vs x hR hF K hK => ?_, ?_⟩
  · have f4 := hF 8 _ _ rfl rfl; have f8 := hF 4 _ _ rfl rfl; have f12 := hF 0 _ _ rfl rfl; clear hF
    go_simp
    exact hK _ _ (Grow.refl _) rfl
  refine Plan.det 15 rfl (Grow.refl) ?_
  apply Exists.intro
  refine ⟨fun vs x hR hF K hK => ?_, ?_⟩
  · have f4 := hF 9 _ _ rfl rfl; have f13 := hF 0 _ _ rfl rfl; clear hF
    go_simp
    exact hK _ _ (Grow.refl _) rfl
  refine Plan.nil (fun vs x hR hF => ?_)
  have f0 := hF 14 _ _ rfl; have f1 := hF 13 _ _ rfl; have f2 := hF 12 _ _ rfl; have f3 := hF 11 _ _ rfl; have f4 := hF 10 _ _ rfl; have f5 := hF 9 _ _ rfl; have f6 := hF 8 _ _ rfl; have f7 := hF 7 _ _ rfl; have f8 := hF 6 _ _ rfl; have f9 := hF 5 _ _ rfl; have f10 := hF 4 _ _ rfl; have f11 := hF 3 _ _ rfl; have f12 := hF 2 _ _ rfl; have f13 := hF 1 _ _ rfl; have f14 := hF 0 _ _ rfl
  clear hF
  simp only [f0, f1, f2, f3, f4, f5, f6, f7, f8, f9, f10, f11, f12, f13, f14]
  clear f0 f1 f2 f3 f4 f5 f6 f7 f8 f9 f10 f11 f12 f13 f14
  simp only [List.drop_succ_cons, List.drop_zero]
  have hbx : Below w.heap.size w x := below_grow HB.out (by simp) hR
  have HBX := hid hbx
  have hfz := HMF.out x hR
  have HS := hid (HP.out.later hbx).st
  clear HC hR hbx qc
  have qc := HS.out.c
  go_wp2_with fail
  go_ret
  obtain ⟨h1, h2, h3, ⟨old, h4⟩, h5, h6, h7, h8, h9, h10⟩ := HS.out
  have hmb : C.MB ≠ C.M := fun e => by rw [e] at h3; exact absurd (h3.typed h2) (by decide)
  have hgm : C.G ≠ C.M := fun e => by rw [e] at h4; exact absurd (h4.typed h2) (by decide)
  refine ⟨.over, 0, .tryOver, rfl, ⟨h1.setCell (by exact h5) _, h2.set 4 (.bool true), h3.other hmb _ _, ⟨old, h4.other hgm _ _⟩, h5, h6, h7, h8, h9, h10⟩, ?_, fun l hl => by cases hl⟩
  exact (But.of_below HBX.out).setCell (.inl (by simp [Ctx.S])) _

set_option maxRecDepth 100000 in
set_option maxHeartbeats 8000000 in
theorem try1 (n : Nat) (HA : ArmC C n 1 75 (fun t => #[t])) (w : World) (p : Pay) (xs : List Re) (ta : Option Addr) (tc i k : Nat) (sp : Spans) (K : Kont) (sa : Option Addr) (sc fid : Nat) (cap : Array Value) (h : Pre C (n + 1) (C.B - (n + 1) + 1) sp K (.slice sa sp.length sc) (.func (.func fid) #[] cap) w) (ho : p.op = 1) (hin : (Re.mk p xs).In C.w0 (p.cells (.slice ta xs.length tc))) (hok : (Re.mk p xs).ok C.N) (hik : i ≤ k) (hks : k ≤ C.s.size) :
    Calls Try.prog 89 #[.pointer (some ⟨C.M, 0, none⟩), .agg #[.int .i64 p.op, .int .u64 p.set.a, .int .u64 p.set.b, .int .u64 p.set.c, .int .u64 p.set.d, .int .i64 p.lo, .int .i64 p.hi, .int .i64 p.gr, .slice ta xs.length tc, .int .i64 i, .int .i64 k, .slice sa sp.length sc, .func (.func fid) #[] cap]] w (Good C (Ev C.str C.lines (.try (.mk p xs) i k) sp K (n + 1)) w) := by
  have HP := hid h
  have HHA := hid HA
  have HO := hid ho
  have HIN := hid hin
  have HOK := hid hok
  have hnB := h.st.nB
  have hbig := h.st.big
  have qc := (h.later ((Below.refl w.heap.size w).alloc (Nat.le_refl _) (.cells #[.int .i64 p.op, .int .u64 p.set.a, .int .u64 p.set.b, .int .u64 p.set.c, .int .u64 p.set.d, .int .i64 p.lo, .int .i64 p.hi, .int .i64 p.gr, .slice ta xs.length tc, .int .i64 i, .int .i64 k, .slice sa sp.length sc, .func (.func fid) #[] cap] 138))).st.c
  have HC := hid (fun (x : World) (hx : Grow (((w.alloc (.cells #[.int .i64 p.op, .int .u64 p.set.a, .int .u64 p.set.b, .int .u64 p.set.c, .int .u64 p.set.d, .int .i64 p.lo, .int .i64 p.hi, .int .i64 p.gr, .slice ta xs.length tc, .int .i64 i, .int .i64 k, .slice sa sp.length sc, .func (.func fid) #[] cap] 138)))).drew x) => (⟨(leafHC (cs := [.int .i64 p.op, .int .u64 p.set.a, .int .u64 p.set.b, .int .u64 p.set.c, .int .u64 p.set.d, .int .i64 p.lo, .int .i64 p.hi, .int .i64 p.gr, .slice ta xs.length tc, .int .i64 i, .int .i64 k, .slice sa sp.length sc, .func (.func fid) #[] cap]) h hx).2.c, (leafHC (cs := [.int .i64 p.op, .int .u64 p.set.a, .int .u64 p.set.b, .int .u64 p.set.c, .int .u64 p.set.d, .int .i64 p.lo, .int .i64 p.hi, .int .i64 p.gr, .slice ta xs.length tc, .int .i64 i, .int .i64 k, .slice sa sp.length sc, .func (.func fid) #[] cap]) h hx).1⟩ : _ ∧ _))
  have hmf : ∀ x : World, Grow (((w.alloc (.cells #[.int .i64 p.op, .int .u64 p.set.a, .int .u64 p.set.b, .int .u64 p.set.c, .int .u64 p.set.d, .int .i64 p.lo, .int .i64 p.hi, .int .i64 p.gr, .slice ta xs.length tc, .int .i64 i, .int .i64 k, .slice sa sp.length sc, .func (.func fid) #[] cap] 138)))).drew x → x.frozen? ⟨C.M, 2, none⟩ = false := fun x hx => (leafHC (cs := [.int .i64 p.op, .int .u64 p.set.a, .int .u64 p.set.b, .int .u64 p.set.c, .int .u64 p.set.d, .int .i64 p.lo, .int .i64 p.hi, .int .i64 p.gr, .slice ta xs.length tc, .int .i64 i, .int .i64 k, .slice sa sp.length sc, .func (.func fid) #[] cap]) h hx).2.m.free 2
  have HMF := hid hmf
  have d0 : (((C.B - (n + 1) : Nat) : Int) == (C.B : Int)) = false := by simp; omega
  have hw1 : IntKind.i64.wrap (((C.B - (n + 1) : Nat) : Int) + 1) = ((C.B - n : Nat) : Int) := by rw [IntKind.wrap_i64]; omega
  have hw2 : ((C.B - (n + 1) : Nat) : Int) + 1 = ((C.B - n : Nat) : Int) := by omega
  have HB := hid ((Below.refl w.heap.size w).alloc (Nat.le_refl _) (.cells #[.int .i64 p.op, .int .u64 p.set.a, .int .u64 p.set.b, .int .u64 p.set.c, .int .u64 p.set.d, .int .i64 p.lo, .int .i64 p.hi, .int .i64 p.gr, .slice ta xs.length tc, .int .i64 i, .int .i64 k, .slice sa sp.length sc, .func (.func fid) #[] cap] 138))
  have d1 : (p.op == 1) = true := by rw [HO.out]; decide
  clear h hmf hin hok HA ho
  go_enter Try.func89, Try.ntmps89
  go_wp2_with fail
  refine wp_region_inv 15 (Grow) (by kernel_rfl) (by kernel_rfl) (Grow.refl) (fun _ _ _ => Grow.trans) ?_
  simp only [fill, dstOf, Act.put, List.take_succ_cons, List.take_zero, List.getElem?_toArray, List.getElem?_cons_zero, List.getElem?_cons_succ, Option.bind_some, List.setIfInBounds_toArray, List.set_cons_zero, List.set_cons_succ]
  refine Plan.det 1 rfl (Grow.refl) ?_
  apply Exists.intro
  refine ⟨fun vs x hR hF K hK => ?_, ?_⟩
  · clear hF
    go_simp
    exact hK _ _ (Grow.refl _) rfl
  refine Plan.det 2 rfl (Grow.refl) ?_
  apply Exists.intro
  refine ⟨fun vs x hR hF K hK => ?_, ?_⟩
  · have f0 := hF 0 _ _ rfl rfl; clear hF
    go_simp
    exact hK _ _ (Grow.refl _) rfl
  refine Plan.det 3 rfl (Grow.refl) ?_
  apply Exists.intro
  refine ⟨fun vs x hR hF K hK => ?_, ?_⟩
  · have f1 := hF 0 _ _ rfl rfl; clear hF
    go_simp
    exact hK _ _ (Grow.refl _) rfl
  refine Plan.det 4 rfl (Grow.refl) ?_
  apply Exists.intro
  refine ⟨fun vs x hR hF K hK => ?_, ?_⟩
  · have f2 := hF 0 _ _ rfl rfl; have hc := HC.out x hR; clear hF
    go_simp
    exact hK _ _ (Grow.refl _) rfl
  refine Plan.det 5 rfl (Grow.refl) ?_
  apply Exists.intro
  refine ⟨fun vs x hR hF K hK => ?_, ?_⟩
  · have f3 := hF 0 _ _ rfl rfl; clear hF
    go_simp
    exact hK _ _ (Grow.refl _) rfl
  refine Plan.det 6 rfl (Grow.refl) ?_
  apply Exists.intro
  refine ⟨fun vs x hR hF K hK => ?_, ?_⟩
  · have f4 := hF 0 _ _ rfl rfl; clear hF
    go_simp
    exact hK _ _ (Grow.refl _) rfl
  refine Plan.det 7 rfl (Grow.refl) ?_
  apply Exists.intro
  refine ⟨fun vs x hR hF K hK => ?_, ?_⟩
  · have f4 := hF 1 _ _ rfl rfl; have f5 := hF 0 _ _ rfl rfl; clear hF
    go_simp
    exact hK _ _ (Grow.refl _) rfl
  refine Plan.det 8 rfl (Grow.refl) ?_
  apply Exists.intro
  refine ⟨fun vs x hR hF K hK => ?_, ?_⟩
  · have f4 := hF 2 _ _ rfl rfl; have f6 := hF 0 _ _ rfl rfl; clear hF
    go_simp
    exact hK _ _ (Grow.refl _) rfl
  refine Plan.det 9 rfl (Grow.refl) ?_
  apply Exists.intro
  refine ⟨fun vs x hR hF K hK => ?_, ?_⟩
  · have f4 := hF 3 _ _ rfl rfl; have f7 := hF 0 _ _ rfl rfl; have hc := HC.out x hR; clear hF
    go_simp
    exact hK _ _ (Grow.refl _) rfl
  refine Plan.det 10 rfl (Grow.refl) ?_
  apply Exists.intro
  refine ⟨fun vs x hR hF K hK => ?_, ?_⟩
  · have f4 := hF 4 _ _ rfl rfl; clear hF
    go_simp
    exact hK _ _ (Grow.refl _) rfl
  refine Plan.det 11 rfl (Grow.refl) ?_
  apply Exists.intro
  refine ⟨fun vs x hR hF K hK => ?_, ?_⟩
  · have f4 := hF 5 _ _ rfl rfl; have f9 := hF 0 _ _ rfl rfl; clear hF
    go_simp
    exact hK _ _ (Grow.refl _) rfl
  refine Plan.det 12 rfl (Grow.refl) ?_
  apply Exists.intro
  refine ⟨fun vs x hR hF K hK => ?_, ?_⟩
  · have f4 := hF 6 _ _ rfl rfl; have f10 := hF 0 _ _ rfl rfl; clear hF
    go_simp
    exact hK _ _ (Grow.refl _) rfl
  refine Plan.det 13 rfl (Grow.refl) ?_
  apply Exists.intro
  refine ⟨fun vs x hR hF K hK => ?_, ?_⟩
  · have f4 := hF 7 _ _ rfl rfl; have f11 := hF 0 _ _ rfl rfl; have hc := HC.out x hR; clear hF
    go_simp
    exact hK _ _ (Grow.refl _) rfl
  refine Plan.det 14 rfl (Grow.refl) ?_
  apply Exists.intro
  refine ⟨fun vs x hR hF K hK => ?_, ?_⟩
  · have f4 := hF 8 _ _ rfl rfl; have f8 := hF 4 _ _ rfl rfl; have f12 := hF 0 _ _ rfl rfl; clear hF
    go_simp
    exact hK _ _ (Grow.refl _) rfl
  refine Plan.det 15 rfl (Grow.refl) ?_
  apply Exists.intro
  refine ⟨fun vs x hR hF K hK => ?_, ?_⟩
  · have f4 := hF 9 _ _ rfl rfl; have f13 := hF 0 _ _ rfl rfl; clear hF
    go_simp
    exact hK _ _ (Grow.refl _) rfl
  refine Plan.nil (fun vs x hR hF => ?_)
  have f0 := hF 14 _ _ rfl; have f1 := hF 13 _ _ rfl; have f2 := hF 12 _ _ rfl; have f3 := hF 11 _ _ rfl; have f4 := hF 10 _ _ rfl; have f5 := hF 9 _ _ rfl; have f6 := hF 8 _ _ rfl; have f7 := hF 7 _ _ rfl; have f8 := hF 6 _ _ rfl; have f9 := hF 5 _ _ rfl; have f10 := hF 4 _ _ rfl; have f11 := hF 3 _ _ rfl; have f12 := hF 2 _ _ rfl; have f13 := hF 1 _ _ rfl; have f14 := hF 0 _ _ rfl
  clear hF
  simp only [f0, f1, f2, f3, f4, f5, f6, f7, f8, f9, f10, f11, f12, f13, f14]
  clear f0 f1 f2 f3 f4 f5 f6 f7 f8 f9 f10 f11 f12 f13 f14
  simp only [List.drop_succ_cons, List.drop_zero]
  have hbx : Below w.heap.size w x := below_grow HB.out (by simp) hR
  have HBX := hid hbx
  have hfz := HMF.out x hR
  have HR := hid (HC.out x hR).2
  have HPX := hid (HP.out.later hbx)
  clear HC hR hbx qc
  have qc := HPX.out.st.c
  have q := HR.out.c13
  go_wp2_with fail
  obtain ⟨hst, hbut⟩ := HPX.out.st.step
  have HRY := hid (HR.out.but hbut (HPX.out.st.nS HR.out (by decide) (by decide)))
  have HPY : Hid (Pre C n (C.B - n) sp K (.slice sa sp.length sc) (.func (.func fid) #[] cap) (x.setCell ⟨C.M, 2, none⟩ (.int .i64 ((C.B - n : Nat) : Int)))) :=
    ⟨hst, HPX.out.span.but hbut, HPX.out.ok, HPX.out.k.but HPX.out.st hbut, HPX.out.kok.mono (by omega)⟩
  have HBY := hid ((But.of_below HBX.out).trans hbut)
  clear HPX HR HBX hfz qc q hst hbut
  generalize x.setCell ⟨C.M, 2, none⟩ (.int .i64 ((C.B - n : Nat) : Int)) = y at *
  have HC := hid (fun (x : World) (hx : Grow y.drew x) => (⟨(HRY.out.grow hx).c13, ((HPY.out.st.later (grow_below hx)).m.cell 5), ((HPY.out.st.later (grow_below hx)).m.cell 6), ((HPY.out.st.later (grow_below hx)).m.cell 7), ((HPY.out.st.later (grow_below hx)).m.cell 8), ((HPY.out.st.later (grow_below hx)).m.cell 9), ((HPY.out.st.later (grow_below hx)).m.cell 10), ((HPY.out.st.later (grow_below hx)).m.cell 11), ((HPY.out.st.later (grow_below hx)).m.cell 12), ((HPY.out.st.later (grow_below hx)).m.cell 13)⟩ : _ ∧ _ ∧ _ ∧ _ ∧ _ ∧ _ ∧ _ ∧ _ ∧ _ ∧ _))
  refine wp_region_inv 6 (Grow) (by kernel_rfl) (by kernel_rfl) (Grow.refl) (fun _ _ _ => Grow.trans) ?_
  simp only [fill, dstOf, Act.put, List.take_succ_cons, List.take_zero, List.getElem?_toArray, List.getElem?_cons_zero, List.getElem?_cons_succ, Option.bind_some, List.setIfInBounds_toArray, List.set_cons_zero, List.set_cons_succ]
  refine Plan.det 1 rfl (Grow.refl) ?_
  apply Exists.intro
  refine ⟨fun vs x hR hF K hK => ?_, ?_⟩
  · clear hF
    go_simp
    exact hK _ _ (Grow.refl _) rfl
  refine Plan.det 2 rfl (Grow.refl) ?_
  apply Exists.intro
  refine ⟨fun vs x hR hF K hK => ?_, ?_⟩
  · have f0 := hF 0 _ _ rfl rfl; clear hF
    go_simp
    exact hK _ _ (Grow.refl _) rfl
  refine Plan.det 3 rfl (Grow.refl) ?_
  apply Exists.intro
  refine ⟨fun vs x hR hF K hK => ?_, ?_⟩
  · have f1 := hF 0 _ _ rfl rfl; clear hF
    go_simp
    exact hK _ _ (Grow.refl _) rfl
  refine Plan.det 4 rfl (Grow.refl) ?_
  apply Exists.intro
  refine ⟨fun vs x hR hF K hK => ?_, ?_⟩
  · have f2 := hF 0 _ _ rfl rfl; clear hF
    go_simp
    exact hK _ _ (Grow.refl _) rfl
  refine Plan.det 5 rfl (Grow.refl) ?_
  apply Exists.intro
  refine ⟨fun vs x hR hF K hK => ?_, ?_⟩
  · have f3 := hF 0 _ _ rfl rfl; have hc := HC.out x hR; clear hF
    go_simp
    exact hK _ _ (Grow.refl _) rfl
  refine Plan.det 6 rfl (Grow.refl) ?_
  apply Exists.intro
  refine ⟨fun vs x hR hF K hK => ?_, ?_⟩
  · have hc := HC.out x hR; clear hF
    go_simp
    exact hK _ _ (Grow.refl _) rfl
  refine Plan.nil (fun vs x hR hF => ?_)
  have f0 := hF 5 _ _ rfl; have f1 := hF 4 _ _ rfl; have f2 := hF 3 _ _ rfl; have f3 := hF 2 _ _ rfl; have f4 := hF 1 _ _ rfl; have f5 := hF 0 _ _ rfl
  clear hF
  simp only [f0, f1, f2, f3, f4, f5]
  clear f0 f1 f2 f3 f4 f5
  simp only [List.drop_succ_cons, List.drop_zero]
  have HPZ := hid (HPY.out.later (grow_below hR))
  have HBZ := hid (HBY.out.trans (But.of_below (grow_below hR)))
  clear HC hR
  go_wp2_with fail
  refine (HHA.out _ p xs ta tc i k sp K sa sc fid cap HPZ.out HO.out HIN.out HOK.out hik hks).mono ?_
  rintro e w' ⟨o, m, h1, rfl, h3, h4, h5⟩
  have HG : Hid (Good C (Ev C.str C.lines (.try (.mk p xs) i k) sp K (n + 1)) w (.returned (.bool o.isFound)) w') := ⟨o, m, h1, rfl, h3, HBZ.out.trans h4, h5⟩
  clear h1 h3 h4 h5
  generalize o.isFound = fo at *
  go_wp2_with fail
  go_ret
  exact HG.out
set_option maxRecDepth 100000 in
set_option maxHeartbeats 8000000 in
theorem try2 (n : Nat) (HA : ArmC C n 2 76 (fun t => #[t, .pointer (some ⟨C.MB, 0, none⟩)])) (w : World) (p : Pay) (xs : List Re) (ta : Option Addr) (tc i k : Nat) (sp : Spans) (K : Kont) (sa : Option Addr) (sc fid : Nat) (cap : Array Value) (h : Pre C (n + 1) (C.B - (n + 1) + 1) sp K (.slice sa sp.length sc) (.func (.func fid) #[] cap) w) (ho : p.op = 2) (hin : (Re.mk p xs).In C.w0 (p.cells (.slice ta xs.length tc))) (hok : (Re.mk p xs).ok C.N) (hik : i ≤ k) (hks : k ≤ C.s.size) :
    Calls Try.prog 89 #[.pointer (some ⟨C.M, 0, none⟩), .agg #[.int .i64 p.op, .int .u64 p.set.a, .int .u64 p.set.b, .int .u64 p.set.c, .int .u64 p.set.d, .int .i64 p.lo, .int .i64 p.hi, .int .i64 p.gr, .slice ta xs.length tc, .int .i64 i, .int .i64 k, .slice sa sp.length sc, .func (.func fid) #[] cap]] w (Good C (Ev C.str C.lines (.try (.mk p xs) i k) sp K (n + 1)) w) := by
  have HP := hid h
  have HHA := hid HA
  have HO := hid ho
  have HIN := hid hin
  have HOK := hid hok
  have hnB := h.st.nB
  have hbig := h.st.big
  have qc := (h.later ((Below.refl w.heap.size w).alloc (Nat.le_refl _) (.cells #[.int .i64 p.op, .int .u64 p.set.a, .int .u64 p.set.b, .int .u64 p.set.c, .int .u64 p.set.d, .int .i64 p.lo, .int .i64 p.hi, .int .i64 p.gr, .slice ta xs.length tc, .int .i64 i, .int .i64 k, .slice sa sp.length sc, .func (.func fid) #[] cap] 138))).st.c
  have HC := hid (fun (x : World) (hx : Grow (((w.alloc (.cells #[.int .i64 p.op, .int .u64 p.set.a, .int .u64 p.set.b, .int .u64 p.set.c, .int .u64 p.set.d, .int .i64 p.lo, .int .i64 p.hi, .int .i64 p.gr, .slice ta xs.length tc, .int .i64 i, .int .i64 k, .slice sa sp.length sc, .func (.func fid) #[] cap] 138)))).drew x) => (⟨(leafHC (cs := [.int .i64 p.op, .int .u64 p.set.a, .int .u64 p.set.b, .int .u64 p.set.c, .int .u64 p.set.d, .int .i64 p.lo, .int .i64 p.hi, .int .i64 p.gr, .slice ta xs.length tc, .int .i64 i, .int .i64 k, .slice sa sp.length sc, .func (.func fid) #[] cap]) h hx).2.c, (leafHC (cs := [.int .i64 p.op, .int .u64 p.set.a, .int .u64 p.set.b, .int .u64 p.set.c, .int .u64 p.set.d, .int .i64 p.lo, .int .i64 p.hi, .int .i64 p.gr, .slice ta xs.length tc, .int .i64 i, .int .i64 k, .slice sa sp.length sc, .func (.func fid) #[] cap]) h hx).1⟩ : _ ∧ _))
  have hmf : ∀ x : World, Grow (((w.alloc (.cells #[.int .i64 p.op, .int .u64 p.set.a, .int .u64 p.set.b, .int .u64 p.set.c, .int .u64 p.set.d, .int .i64 p.lo, .int .i64 p.hi, .int .i64 p.gr, .slice ta xs.length tc, .int .i64 i, .int .i64 k, .slice sa sp.length sc, .func (.func fid) #[] cap] 138)))).drew x → x.frozen? ⟨C.M, 2, none⟩ = false := fun x hx => (leafHC (cs := [.int .i64 p.op, .int .u64 p.set.a, .int .u64 p.set.b, .int .u64 p.set.c, .int .u64 p.set.d, .int .i64 p.lo, .int .i64 p.hi, .int .i64 p.gr, .slice ta xs.length tc, .int .i64 i, .int .i64 k, .slice sa sp.length sc, .func (.func fid) #[] cap]) h hx).2.m.free 2
  have HMF := hid hmf
  have d0 : (((C.B - (n + 1) : Nat) : Int) == (C.B : Int)) = false := by simp; omega
  have hw1 : IntKind.i64.wrap (((C.B - (n + 1) : Nat) : Int) + 1) = ((C.B - n : Nat) : Int) := by rw [IntKind.wrap_i64]; omega
  have hw2 : ((C.B - (n + 1) : Nat) : Int) + 1 = ((C.B - n : Nat) : Int) := by omega
  have HB := hid ((Below.refl w.heap.size w).alloc (Nat.le_refl _) (.cells #[.int .i64 p.op, .int .u64 p.set.a, .int .u64 p.set.b, .int .u64 p.set.c, .int .u64 p.set.d, .int .i64 p.lo, .int .i64 p.hi, .int .i64 p.gr, .slice ta xs.length tc, .int .i64 i, .int .i64 k, .slice sa sp.length sc, .func (.func fid) #[] cap] 138))
  have d1 : (p.op == 1) = false := by rw [HO.out]; decide
  have d2 : (p.op == 2) = true := by rw [HO.out]; decide
  clear h hmf hin hok HA ho
  go_enter Try.func89, Try.ntmps89
  go_wp2_with fail
  refine wp_region_inv 15 (Grow) (by kernel_rfl) (by kernel_rfl) (Grow.refl) (fun _ _ _ => Grow.trans) ?_
  simp only [fill, dstOf, Act.put, List.take_succ_cons, List.take_zero, List.getElem?_toArray, List.getElem?_cons_zero, List.getElem?_cons_succ, Option.bind_some, List.setIfInBounds_toArray, List.set_cons_zero, List.set_cons_succ]
  refine Plan.det 1 rfl (Grow.refl) ?_
  apply Exists.intro
  refine ⟨fun vs x hR hF K hK => ?_, ?_⟩
  · clear hF
    go_simp
    exact hK _ _ (Grow.refl _) rfl
  refine Plan.det 2 rfl (Grow.refl) ?_
  apply Exists.intro
  refine ⟨fun vs x hR hF K hK => ?_, ?_⟩
  · have f0 := hF 0 _ _ rfl rfl; clear hF
    go_simp
    exact hK _ _ (Grow.refl _) rfl
  refine Plan.det 3 rfl (Grow.refl) ?_
  apply Exists.intro
  refine ⟨fun vs x hR hF K hK => ?_, ?_⟩
  · have f1 := hF 0 _ _ rfl rfl; clear hF
    go_simp
    exact hK _ _ (Grow.refl _) rfl
  refine Plan.det 4 rfl (Grow.refl) ?_
  apply Exists.intro
  refine ⟨fun vs x hR hF K hK => ?_, ?_⟩
  · have f2 := hF 0 _ _ rfl rfl; have hc := HC.out x hR; clear hF
    go_simp
    exact hK _ _ (Grow.refl _) rfl
  refine Plan.det 5 rfl (Grow.refl) ?_
  apply Exists.intro
  refine ⟨fun vs x hR hF K hK => ?_, ?_⟩
  · have f3 := hF 0 _ _ rfl rfl; clear hF
    go_simp
    exact hK _ _ (Grow.refl _) rfl
  refine Plan.det 6 rfl (Grow.refl) ?_
  apply Exists.intro
  refine ⟨fun vs x hR hF K hK => ?_, ?_⟩
  · have f4 := hF 0 _ _ rfl rfl; clear hF
    go_simp
    exact hK _ _ (Grow.refl _) rfl
  refine Plan.det 7 rfl (Grow.refl) ?_
  apply Exists.intro
  refine ⟨fun vs x hR hF K hK => ?_, ?_⟩
  · have f4 := hF 1 _ _ rfl rfl; have f5 := hF 0 _ _ rfl rfl; clear hF
    go_simp
    exact hK _ _ (Grow.refl _) rfl
  refine Plan.det 8 rfl (Grow.refl) ?_
  apply Exists.intro
  refine ⟨fun vs x hR hF K hK => ?_, ?_⟩
  · have f4 := hF 2 _ _ rfl rfl; have f6 := hF 0 _ _ rfl rfl; clear hF
    go_simp
    exact hK _ _ (Grow.refl _) rfl
  refine Plan.det 9 rfl (Grow.refl) ?_
  apply Exists.intro
  refine ⟨fun vs x hR hF K hK => ?_, ?_⟩
  · have f4 := hF 3 _ _ rfl rfl; have f7 := hF 0 _ _ rfl rfl; have hc := HC.out x hR; clear hF
    go_simp
    exact hK _ _ (Grow.refl _) rfl
  refine Plan.det 10 rfl (Grow.refl) ?_
  apply Exists.intro
  refine ⟨fun vs x hR hF K hK => ?_, ?_⟩
  · have f4 := hF 4 _ _ rfl rfl; clear hF
    go_simp
    exact hK _ _ (Grow.refl _) rfl
  refine Plan.det 11 rfl (Grow.refl) ?_
  apply Exists.intro
  refine ⟨fun vs x hR hF K hK => ?_, ?_⟩
  · have f4 := hF 5 _ _ rfl rfl; have f9 := hF 0 _ _ rfl rfl; clear hF
    go_simp
    exact hK _ _ (Grow.refl _) rfl
  refine Plan.det 12 rfl (Grow.refl) ?_
  apply Exists.intro
  refine ⟨fun vs x hR hF K hK => ?_, ?_⟩
  · have f4 := hF 6 _ _ rfl rfl; have f10 := hF 0 _ _ rfl rfl; clear hF
    go_simp
    exact hK _ _ (Grow.refl _) rfl
  refine Plan.det 13 rfl (Grow.refl) ?_
  apply Exists.intro
  refine ⟨fun vs x hR hF K hK => ?_, ?_⟩
  · have f4 := hF 7 _ _ rfl rfl; have f11 := hF 0 _ _ rfl rfl; have hc := HC.out x hR; clear hF
    go_simp
    exact hK _ _ (Grow.refl _) rfl
  refine Plan.det 14 rfl (Grow.refl) ?_
  apply Exists.intro
  refine ⟨fun vs x hR hF K hK => ?_, ?_⟩
  · have f4 := hF 8 _ _ rfl rfl; have f8 := hF 4 _ _ rfl rfl; have f12 := hF 0 _ _ rfl rfl; clear hF
    go_simp
    exact hK _ _ (Grow.refl _) rfl
  refine Plan.det 15 rfl (Grow.refl) ?_
  apply Exists.intro
  refine ⟨fun vs x hR hF K hK => ?_, ?_⟩
  · have f4 := hF 9 _ _ rfl rfl; have f13 := hF 0 _ _ rfl rfl; clear hF
    go_simp
    exact hK _ _ (Grow.refl _) rfl
  refine Plan.nil (fun vs x hR hF => ?_)
  have f0 := hF 14 _ _ rfl; have f1 := hF 13 _ _ rfl; have f2 := hF 12 _ _ rfl; have f3 := hF 11 _ _ rfl; have f4 := hF 10 _ _ rfl; have f5 := hF 9 _ _ rfl; have f6 := hF 8 _ _ rfl; have f7 := hF 7 _ _ rfl; have f8 := hF 6 _ _ rfl; have f9 := hF 5 _ _ rfl; have f10 := hF 4 _ _ rfl; have f11 := hF 3 _ _ rfl; have f12 := hF 2 _ _ rfl; have f13 := hF 1 _ _ rfl; have f14 := hF 0 _ _ rfl
  clear hF
  simp only [f0, f1, f2, f3, f4, f5, f6, f7, f8, f9, f10, f11, f12, f13, f14]
  clear f0 f1 f2 f3 f4 f5 f6 f7 f8 f9 f10 f11 f12 f13 f14
  simp only [List.drop_succ_cons, List.drop_zero]
  have hbx : Below w.heap.size w x := below_grow HB.out (by simp) hR
  have HBX := hid hbx
  have hfz := HMF.out x hR
  have HR := hid (HC.out x hR).2
  have HPX := hid (HP.out.later hbx)
  clear HC hR hbx qc
  have qc := HPX.out.st.c
  have q := HR.out.c13
  go_wp2_with fail
  obtain ⟨hst, hbut⟩ := HPX.out.st.step
  have HRY := hid (HR.out.but hbut (HPX.out.st.nS HR.out (by decide) (by decide)))
  have HPY : Hid (Pre C n (C.B - n) sp K (.slice sa sp.length sc) (.func (.func fid) #[] cap) (x.setCell ⟨C.M, 2, none⟩ (.int .i64 ((C.B - n : Nat) : Int)))) :=
    ⟨hst, HPX.out.span.but hbut, HPX.out.ok, HPX.out.k.but HPX.out.st hbut, HPX.out.kok.mono (by omega)⟩
  have HBY := hid ((But.of_below HBX.out).trans hbut)
  clear HPX HR HBX hfz qc q hst hbut
  generalize x.setCell ⟨C.M, 2, none⟩ (.int .i64 ((C.B - n : Nat) : Int)) = y at *
  have HC := hid (fun (x : World) (hx : Grow y.drew x) => (⟨(HRY.out.grow hx).c13, ((HPY.out.st.later (grow_below hx)).m.cell 5), ((HPY.out.st.later (grow_below hx)).m.cell 6), ((HPY.out.st.later (grow_below hx)).m.cell 7), ((HPY.out.st.later (grow_below hx)).m.cell 8), ((HPY.out.st.later (grow_below hx)).m.cell 9), ((HPY.out.st.later (grow_below hx)).m.cell 10), ((HPY.out.st.later (grow_below hx)).m.cell 11), ((HPY.out.st.later (grow_below hx)).m.cell 12), ((HPY.out.st.later (grow_below hx)).m.cell 13)⟩ : _ ∧ _ ∧ _ ∧ _ ∧ _ ∧ _ ∧ _ ∧ _ ∧ _ ∧ _))
  refine wp_region_inv 6 (Grow) (by kernel_rfl) (by kernel_rfl) (Grow.refl) (fun _ _ _ => Grow.trans) ?_
  simp only [fill, dstOf, Act.put, List.take_succ_cons, List.take_zero, List.getElem?_toArray, List.getElem?_cons_zero, List.getElem?_cons_succ, Option.bind_some, List.setIfInBounds_toArray, List.set_cons_zero, List.set_cons_succ]
  refine Plan.det 1 rfl (Grow.refl) ?_
  apply Exists.intro
  refine ⟨fun vs x hR hF K hK => ?_, ?_⟩
  · clear hF
    go_simp
    exact hK _ _ (Grow.refl _) rfl
  refine Plan.det 2 rfl (Grow.refl) ?_
  apply Exists.intro
  refine ⟨fun vs x hR hF K hK => ?_, ?_⟩
  · have f0 := hF 0 _ _ rfl rfl; clear hF
    go_simp
    exact hK _ _ (Grow.refl _) rfl
  refine Plan.det 3 rfl (Grow.refl) ?_
  apply Exists.intro
  refine ⟨fun vs x hR hF K hK => ?_, ?_⟩
  · have f1 := hF 0 _ _ rfl rfl; clear hF
    go_simp
    exact hK _ _ (Grow.refl _) rfl
  refine Plan.det 4 rfl (Grow.refl) ?_
  apply Exists.intro
  refine ⟨fun vs x hR hF K hK => ?_, ?_⟩
  · have f2 := hF 0 _ _ rfl rfl; clear hF
    go_simp
    exact hK _ _ (Grow.refl _) rfl
  refine Plan.det 5 rfl (Grow.refl) ?_
  apply Exists.intro
  refine ⟨fun vs x hR hF K hK => ?_, ?_⟩
  · have f3 := hF 0 _ _ rfl rfl; have hc := HC.out x hR; clear hF
    go_simp
    exact hK _ _ (Grow.refl _) rfl
  refine Plan.det 6 rfl (Grow.refl) ?_
  apply Exists.intro
  refine ⟨fun vs x hR hF K hK => ?_, ?_⟩
  · have hc := HC.out x hR; clear hF
    go_simp
    exact hK _ _ (Grow.refl _) rfl
  refine Plan.nil (fun vs x hR hF => ?_)
  have f0 := hF 5 _ _ rfl; have f1 := hF 4 _ _ rfl; have f2 := hF 3 _ _ rfl; have f3 := hF 2 _ _ rfl; have f4 := hF 1 _ _ rfl; have f5 := hF 0 _ _ rfl
  clear hF
  simp only [f0, f1, f2, f3, f4, f5]
  clear f0 f1 f2 f3 f4 f5
  simp only [List.drop_succ_cons, List.drop_zero]
  have HPZ := hid (HPY.out.later (grow_below hR))
  have HBZ := hid (HBY.out.trans (But.of_below (grow_below hR)))
  clear HC hR
  go_wp2_with fail
  refine (HHA.out _ p xs ta tc i k sp K sa sc fid cap HPZ.out HO.out HIN.out HOK.out hik hks).mono ?_
  rintro e w' ⟨o, m, h1, rfl, h3, h4, h5⟩
  have HG : Hid (Good C (Ev C.str C.lines (.try (.mk p xs) i k) sp K (n + 1)) w (.returned (.bool o.isFound)) w') := ⟨o, m, h1, rfl, h3, HBZ.out.trans h4, h5⟩
  clear h1 h3 h4 h5
  generalize o.isFound = fo at *
  go_wp2_with fail
  go_ret
  exact HG.out
set_option maxRecDepth 100000 in
set_option maxHeartbeats 8000000 in
theorem try3 (n : Nat) (HA : ArmC C n 3 79 (fun t => #[t, .pointer (some ⟨C.MB, 0, none⟩)])) (w : World) (p : Pay) (xs : List Re) (ta : Option Addr) (tc i k : Nat) (sp : Spans) (K : Kont) (sa : Option Addr) (sc fid : Nat) (cap : Array Value) (h : Pre C (n + 1) (C.B - (n + 1) + 1) sp K (.slice sa sp.length sc) (.func (.func fid) #[] cap) w) (ho : p.op = 3) (hin : (Re.mk p xs).In C.w0 (p.cells (.slice ta xs.length tc))) (hok : (Re.mk p xs).ok C.N) (hik : i ≤ k) (hks : k ≤ C.s.size) :
    Calls Try.prog 89 #[.pointer (some ⟨C.M, 0, none⟩), .agg #[.int .i64 p.op, .int .u64 p.set.a, .int .u64 p.set.b, .int .u64 p.set.c, .int .u64 p.set.d, .int .i64 p.lo, .int .i64 p.hi, .int .i64 p.gr, .slice ta xs.length tc, .int .i64 i, .int .i64 k, .slice sa sp.length sc, .func (.func fid) #[] cap]] w (Good C (Ev C.str C.lines (.try (.mk p xs) i k) sp K (n + 1)) w) := by
  have HP := hid h
  have HHA := hid HA
  have HO := hid ho
  have HIN := hid hin
  have HOK := hid hok
  have hnB := h.st.nB
  have hbig := h.st.big
  have qc := (h.later ((Below.refl w.heap.size w).alloc (Nat.le_refl _) (.cells #[.int .i64 p.op, .int .u64 p.set.a, .int .u64 p.set.b, .int .u64 p.set.c, .int .u64 p.set.d, .int .i64 p.lo, .int .i64 p.hi, .int .i64 p.gr, .slice ta xs.length tc, .int .i64 i, .int .i64 k, .slice sa sp.length sc, .func (.func fid) #[] cap] 138))).st.c
  have HC := hid (fun (x : World) (hx : Grow (((w.alloc (.cells #[.int .i64 p.op, .int .u64 p.set.a, .int .u64 p.set.b, .int .u64 p.set.c, .int .u64 p.set.d, .int .i64 p.lo, .int .i64 p.hi, .int .i64 p.gr, .slice ta xs.length tc, .int .i64 i, .int .i64 k, .slice sa sp.length sc, .func (.func fid) #[] cap] 138)))).drew x) => (⟨(leafHC (cs := [.int .i64 p.op, .int .u64 p.set.a, .int .u64 p.set.b, .int .u64 p.set.c, .int .u64 p.set.d, .int .i64 p.lo, .int .i64 p.hi, .int .i64 p.gr, .slice ta xs.length tc, .int .i64 i, .int .i64 k, .slice sa sp.length sc, .func (.func fid) #[] cap]) h hx).2.c, (leafHC (cs := [.int .i64 p.op, .int .u64 p.set.a, .int .u64 p.set.b, .int .u64 p.set.c, .int .u64 p.set.d, .int .i64 p.lo, .int .i64 p.hi, .int .i64 p.gr, .slice ta xs.length tc, .int .i64 i, .int .i64 k, .slice sa sp.length sc, .func (.func fid) #[] cap]) h hx).1⟩ : _ ∧ _))
  have hmf : ∀ x : World, Grow (((w.alloc (.cells #[.int .i64 p.op, .int .u64 p.set.a, .int .u64 p.set.b, .int .u64 p.set.c, .int .u64 p.set.d, .int .i64 p.lo, .int .i64 p.hi, .int .i64 p.gr, .slice ta xs.length tc, .int .i64 i, .int .i64 k, .slice sa sp.length sc, .func (.func fid) #[] cap] 138)))).drew x → x.frozen? ⟨C.M, 2, none⟩ = false := fun x hx => (leafHC (cs := [.int .i64 p.op, .int .u64 p.set.a, .int .u64 p.set.b, .int .u64 p.set.c, .int .u64 p.set.d, .int .i64 p.lo, .int .i64 p.hi, .int .i64 p.gr, .slice ta xs.length tc, .int .i64 i, .int .i64 k, .slice sa sp.length sc, .func (.func fid) #[] cap]) h hx).2.m.free 2
  have HMF := hid hmf
  have d0 : (((C.B - (n + 1) : Nat) : Int) == (C.B : Int)) = false := by simp; omega
  have hw1 : IntKind.i64.wrap (((C.B - (n + 1) : Nat) : Int) + 1) = ((C.B - n : Nat) : Int) := by rw [IntKind.wrap_i64]; omega
  have hw2 : ((C.B - (n + 1) : Nat) : Int) + 1 = ((C.B - n : Nat) : Int) := by omega
  have HB := hid ((Below.refl w.heap.size w).alloc (Nat.le_refl _) (.cells #[.int .i64 p.op, .int .u64 p.set.a, .int .u64 p.set.b, .int .u64 p.set.c, .int .u64 p.set.d, .int .i64 p.lo, .int .i64 p.hi, .int .i64 p.gr, .slice ta xs.length tc, .int .i64 i, .int .i64 k, .slice sa sp.length sc, .func (.func fid) #[] cap] 138))
  have d1 : (p.op == 1) = false := by rw [HO.out]; decide
  have d2 : (p.op == 2) = false := by rw [HO.out]; decide
  have d3 : (p.op == 3) = true := by rw [HO.out]; decide
  clear h hmf hin hok HA ho
  go_enter Try.func89, Try.ntmps89
  go_wp2_with fail
  refine wp_region_inv 15 (Grow) (by kernel_rfl) (by kernel_rfl) (Grow.refl) (fun _ _ _ => Grow.trans) ?_
  simp only [fill, dstOf, Act.put, List.take_succ_cons, List.take_zero, List.getElem?_toArray, List.getElem?_cons_zero, List.getElem?_cons_succ, Option.bind_some, List.setIfInBounds_toArray, List.set_cons_zero, List.set_cons_succ]
  refine Plan.det 1 rfl (Grow.refl) ?_
  apply Exists.intro
  refine ⟨fun vs x hR hF K hK => ?_, ?_⟩
  · clear hF
    go_simp
    exact hK _ _ (Grow.refl _) rfl
  refine Plan.det 2 rfl (Grow.refl) ?_
  apply Exists.intro
  refine ⟨fun vs x hR hF K hK => ?_, ?_⟩
  · have f0 := hF 0 _ _ rfl rfl; clear hF
    go_simp
    exact hK _ _ (Grow.refl _) rfl
  refine Plan.det 3 rfl (Grow.refl) ?_
  apply Exists.intro
  refine ⟨fun vs x hR hF K hK => ?_, ?_⟩
  · have f1 := hF 0 _ _ rfl rfl; clear hF
    go_simp
    exact hK _ _ (Grow.refl _) rfl
  refine Plan.det 4 rfl (Grow.refl) ?_
  apply Exists.intro
  refine ⟨fun vs x hR hF K hK => ?_, ?_⟩
  · have f2 := hF 0 _ _ rfl rfl; have hc := HC.out x hR; clear hF
    go_simp
    exact hK _ _ (Grow.refl _) rfl
  refine Plan.det 5 rfl (Grow.refl) ?_
  apply Exists.intro
  refine ⟨fun vs x hR hF K hK => ?_, ?_⟩
  · have f3 := hF 0 _ _ rfl rfl; clear hF
    go_simp
    exact hK _ _ (Grow.refl _) rfl
  refine Plan.det 6 rfl (Grow.refl) ?_
  apply Exists.intro
  refine ⟨fun vs x hR hF K hK => ?_, ?_⟩
  · have f4 := hF 0 _ _ rfl rfl; clear hF
    go_simp
    exact hK _ _ (Grow.refl _) rfl
  refine Plan.det 7 rfl (Grow.refl) ?_
  apply Exists.intro
  refine ⟨fun vs x hR hF K hK => ?_, ?_⟩
  · have f4 := hF 1 _ _ rfl rfl; have f5 := hF 0 _ _ rfl rfl; clear hF
    go_simp
    exact hK _ _ (Grow.refl _) rfl
  refine Plan.det 8 rfl (Grow.refl) ?_
  apply Exists.intro
  refine ⟨fun vs x hR hF K hK => ?_, ?_⟩
  · have f4 := hF 2 _ _ rfl rfl; have f6 := hF 0 _ _ rfl rfl; clear hF
    go_simp
    exact hK _ _ (Grow.refl _) rfl
  refine Plan.det 9 rfl (Grow.refl) ?_
  apply Exists.intro
  refine ⟨fun vs x hR hF K hK => ?_, ?_⟩
  · have f4 := hF 3 _ _ rfl rfl; have f7 := hF 0 _ _ rfl rfl; have hc := HC.out x hR; clear hF
    go_simp
    exact hK _ _ (Grow.refl _) rfl
  refine Plan.det 10 rfl (Grow.refl) ?_
  apply Exists.intro
  refine ⟨fun vs x hR hF K hK => ?_, ?_⟩
  · have f4 := hF 4 _ _ rfl rfl; clear hF
    go_simp
    exact hK _ _ (Grow.refl _) rfl
  refine Plan.det 11 rfl (Grow.refl) ?_
  apply Exists.intro
  refine ⟨fun vs x hR hF K hK => ?_, ?_⟩
  · have f4 := hF 5 _ _ rfl rfl; have f9 := hF 0 _ _ rfl rfl; clear hF
    go_simp
    exact hK _ _ (Grow.refl _) rfl
  refine Plan.det 12 rfl (Grow.refl) ?_
  apply Exists.intro
  refine ⟨fun vs x hR hF K hK => ?_, ?_⟩
  · have f4 := hF 6 _ _ rfl rfl; have f10 := hF 0 _ _ rfl rfl; clear hF
    go_simp
    exact hK _ _ (Grow.refl _) rfl
  refine Plan.det 13 rfl (Grow.refl) ?_
  apply Exists.intro
  refine ⟨fun vs x hR hF K hK => ?_, ?_⟩
  · have f4 := hF 7 _ _ rfl rfl; have f11 := hF 0 _ _ rfl rfl; have hc := HC.out x hR; clear hF
    go_simp
    exact hK _ _ (Grow.refl _) rfl
  refine Plan.det 14 rfl (Grow.refl) ?_
  apply Exists.intro
  refine ⟨fun vs x hR hF K hK => ?_, ?_⟩
  · have f4 := hF 8 _ _ rfl rfl; have f8 := hF 4 _ _ rfl rfl; have f12 := hF 0 _ _ rfl rfl; clear hF
    go_simp
    exact hK _ _ (Grow.refl _) rfl
  refine Plan.det 15 rfl (Grow.refl) ?_
  apply Exists.intro
  refine ⟨fun vs x hR hF K hK => ?_, ?_⟩
  · have f4 := hF 9 _ _ rfl rfl; have f13 := hF 0 _ _ rfl rfl; clear hF
    go_simp
    exact hK _ _ (Grow.refl _) rfl
  refine Plan.nil (fun vs x hR hF => ?_)
  have f0 := hF 14 _ _ rfl; have f1 := hF 13 _ _ rfl; have f2 := hF 12 _ _ rfl; have f3 := hF 11 _ _ rfl; have f4 := hF 10 _ _ rfl; have f5 := hF 9 _ _ rfl; have f6 := hF 8 _ _ rfl; have f7 := hF 7 _ _ rfl; have f8 := hF 6 _ _ rfl; have f9 := hF 5 _ _ rfl; have f10 := hF 4 _ _ rfl; have f11 := hF 3 _ _ rfl; have f12 := hF 2 _ _ rfl; have f13 := hF 1 _ _ rfl; have f14 := hF 0 _ _ rfl
  clear hF
  simp only [f0, f1, f2, f3, f4, f5, f6, f7, f8, f9, f10, f11, f12, f13, f14]
  clear f0 f1 f2 f3 f4 f5 f6 f7 f8 f9 f10 f11 f12 f13 f14
  simp only [List.drop_succ_cons, List.drop_zero]
  have hbx : Below w.heap.size w x := below_grow HB.out (by simp) hR
  have HBX := hid hbx
  have hfz := HMF.out x hR
  have HR := hid (HC.out x hR).2
  have HPX := hid (HP.out.later hbx)
  clear HC hR hbx qc
  have qc := HPX.out.st.c
  have q := HR.out.c13
  go_wp2_with fail
  obtain ⟨hst, hbut⟩ := HPX.out.st.step
  have HRY := hid (HR.out.but hbut (HPX.out.st.nS HR.out (by decide) (by decide)))
  have HPY : Hid (Pre C n (C.B - n) sp K (.slice sa sp.length sc) (.func (.func fid) #[] cap) (x.setCell ⟨C.M, 2, none⟩ (.int .i64 ((C.B - n : Nat) : Int)))) :=
    ⟨hst, HPX.out.span.but hbut, HPX.out.ok, HPX.out.k.but HPX.out.st hbut, HPX.out.kok.mono (by omega)⟩
  have HBY := hid ((But.of_below HBX.out).trans hbut)
  clear HPX HR HBX hfz qc q hst hbut
  generalize x.setCell ⟨C.M, 2, none⟩ (.int .i64 ((C.B - n : Nat) : Int)) = y at *
  have HC := hid (fun (x : World) (hx : Grow y.drew x) => (⟨(HRY.out.grow hx).c13, ((HPY.out.st.later (grow_below hx)).m.cell 5), ((HPY.out.st.later (grow_below hx)).m.cell 6), ((HPY.out.st.later (grow_below hx)).m.cell 7), ((HPY.out.st.later (grow_below hx)).m.cell 8), ((HPY.out.st.later (grow_below hx)).m.cell 9), ((HPY.out.st.later (grow_below hx)).m.cell 10), ((HPY.out.st.later (grow_below hx)).m.cell 11), ((HPY.out.st.later (grow_below hx)).m.cell 12), ((HPY.out.st.later (grow_below hx)).m.cell 13)⟩ : _ ∧ _ ∧ _ ∧ _ ∧ _ ∧ _ ∧ _ ∧ _ ∧ _ ∧ _))
  refine wp_region_inv 6 (Grow) (by kernel_rfl) (by kernel_rfl) (Grow.refl) (fun _ _ _ => Grow.trans) ?_
  simp only [fill, dstOf, Act.put, List.take_succ_cons, List.take_zero, List.getElem?_toArray, List.getElem?_cons_zero, List.getElem?_cons_succ, Option.bind_some, List.setIfInBounds_toArray, List.set_cons_zero, List.set_cons_succ]
  refine Plan.det 1 rfl (Grow.refl) ?_
  apply Exists.intro
  refine ⟨fun vs x hR hF K hK => ?_, ?_⟩
  · clear hF
    go_simp
    exact hK _ _ (Grow.refl _) rfl
  refine Plan.det 2 rfl (Grow.refl) ?_
  apply Exists.intro
  refine ⟨fun vs x hR hF K hK => ?_, ?_⟩
  · have f0 := hF 0 _ _ rfl rfl; clear hF
    go_simp
    exact hK _ _ (Grow.refl _) rfl
  refine Plan.det 3 rfl (Grow.refl) ?_
  apply Exists.intro
  refine ⟨fun vs x hR hF K hK => ?_, ?_⟩
  · have f1 := hF 0 _ _ rfl rfl; clear hF
    go_simp
    exact hK _ _ (Grow.refl _) rfl
  refine Plan.det 4 rfl (Grow.refl) ?_
  apply Exists.intro
  refine ⟨fun vs x hR hF K hK => ?_, ?_⟩
  · have f2 := hF 0 _ _ rfl rfl; clear hF
    go_simp
    exact hK _ _ (Grow.refl _) rfl
  refine Plan.det 5 rfl (Grow.refl) ?_
  apply Exists.intro
  refine ⟨fun vs x hR hF K hK => ?_, ?_⟩
  · have f3 := hF 0 _ _ rfl rfl; have hc := HC.out x hR; clear hF
    go_simp
    exact hK _ _ (Grow.refl _) rfl
  refine Plan.det 6 rfl (Grow.refl) ?_
  apply Exists.intro
  refine ⟨fun vs x hR hF K hK => ?_, ?_⟩
  · have hc := HC.out x hR; clear hF
    go_simp
    exact hK _ _ (Grow.refl _) rfl
  refine Plan.nil (fun vs x hR hF => ?_)
  have f0 := hF 5 _ _ rfl; have f1 := hF 4 _ _ rfl; have f2 := hF 3 _ _ rfl; have f3 := hF 2 _ _ rfl; have f4 := hF 1 _ _ rfl; have f5 := hF 0 _ _ rfl
  clear hF
  simp only [f0, f1, f2, f3, f4, f5]
  clear f0 f1 f2 f3 f4 f5
  simp only [List.drop_succ_cons, List.drop_zero]
  have HPZ := hid (HPY.out.later (grow_below hR))
  have HBZ := hid (HBY.out.trans (But.of_below (grow_below hR)))
  clear HC hR
  go_wp2_with fail
  refine (HHA.out _ p xs ta tc i k sp K sa sc fid cap HPZ.out HO.out HIN.out HOK.out hik hks).mono ?_
  rintro e w' ⟨o, m, h1, rfl, h3, h4, h5⟩
  have HG : Hid (Good C (Ev C.str C.lines (.try (.mk p xs) i k) sp K (n + 1)) w (.returned (.bool o.isFound)) w') := ⟨o, m, h1, rfl, h3, HBZ.out.trans h4, h5⟩
  clear h1 h3 h4 h5
  generalize o.isFound = fo at *
  go_wp2_with fail
  go_ret
  exact HG.out
set_option maxRecDepth 100000 in
set_option maxHeartbeats 8000000 in
theorem try4 (n : Nat) (HA : ArmC C n 4 81 (fun t => #[.pointer (some ⟨C.M, 0, none⟩), t])) (w : World) (p : Pay) (xs : List Re) (ta : Option Addr) (tc i k : Nat) (sp : Spans) (K : Kont) (sa : Option Addr) (sc fid : Nat) (cap : Array Value) (h : Pre C (n + 1) (C.B - (n + 1) + 1) sp K (.slice sa sp.length sc) (.func (.func fid) #[] cap) w) (ho : p.op = 4) (hin : (Re.mk p xs).In C.w0 (p.cells (.slice ta xs.length tc))) (hok : (Re.mk p xs).ok C.N) (hik : i ≤ k) (hks : k ≤ C.s.size) :
    Calls Try.prog 89 #[.pointer (some ⟨C.M, 0, none⟩), .agg #[.int .i64 p.op, .int .u64 p.set.a, .int .u64 p.set.b, .int .u64 p.set.c, .int .u64 p.set.d, .int .i64 p.lo, .int .i64 p.hi, .int .i64 p.gr, .slice ta xs.length tc, .int .i64 i, .int .i64 k, .slice sa sp.length sc, .func (.func fid) #[] cap]] w (Good C (Ev C.str C.lines (.try (.mk p xs) i k) sp K (n + 1)) w) := by
  have HP := hid h
  have HHA := hid HA
  have HO := hid ho
  have HIN := hid hin
  have HOK := hid hok
  have hnB := h.st.nB
  have hbig := h.st.big
  have qc := (h.later ((Below.refl w.heap.size w).alloc (Nat.le_refl _) (.cells #[.int .i64 p.op, .int .u64 p.set.a, .int .u64 p.set.b, .int .u64 p.set.c, .int .u64 p.set.d, .int .i64 p.lo, .int .i64 p.hi, .int .i64 p.gr, .slice ta xs.length tc, .int .i64 i, .int .i64 k, .slice sa sp.length sc, .func (.func fid) #[] cap] 138))).st.c
  have HC := hid (fun (x : World) (hx : Grow (((w.alloc (.cells #[.int .i64 p.op, .int .u64 p.set.a, .int .u64 p.set.b, .int .u64 p.set.c, .int .u64 p.set.d, .int .i64 p.lo, .int .i64 p.hi, .int .i64 p.gr, .slice ta xs.length tc, .int .i64 i, .int .i64 k, .slice sa sp.length sc, .func (.func fid) #[] cap] 138)))).drew x) => (⟨(leafHC (cs := [.int .i64 p.op, .int .u64 p.set.a, .int .u64 p.set.b, .int .u64 p.set.c, .int .u64 p.set.d, .int .i64 p.lo, .int .i64 p.hi, .int .i64 p.gr, .slice ta xs.length tc, .int .i64 i, .int .i64 k, .slice sa sp.length sc, .func (.func fid) #[] cap]) h hx).2.c, (leafHC (cs := [.int .i64 p.op, .int .u64 p.set.a, .int .u64 p.set.b, .int .u64 p.set.c, .int .u64 p.set.d, .int .i64 p.lo, .int .i64 p.hi, .int .i64 p.gr, .slice ta xs.length tc, .int .i64 i, .int .i64 k, .slice sa sp.length sc, .func (.func fid) #[] cap]) h hx).1⟩ : _ ∧ _))
  have hmf : ∀ x : World, Grow (((w.alloc (.cells #[.int .i64 p.op, .int .u64 p.set.a, .int .u64 p.set.b, .int .u64 p.set.c, .int .u64 p.set.d, .int .i64 p.lo, .int .i64 p.hi, .int .i64 p.gr, .slice ta xs.length tc, .int .i64 i, .int .i64 k, .slice sa sp.length sc, .func (.func fid) #[] cap] 138)))).drew x → x.frozen? ⟨C.M, 2, none⟩ = false := fun x hx => (leafHC (cs := [.int .i64 p.op, .int .u64 p.set.a, .int .u64 p.set.b, .int .u64 p.set.c, .int .u64 p.set.d, .int .i64 p.lo, .int .i64 p.hi, .int .i64 p.gr, .slice ta xs.length tc, .int .i64 i, .int .i64 k, .slice sa sp.length sc, .func (.func fid) #[] cap]) h hx).2.m.free 2
  have HMF := hid hmf
  have d0 : (((C.B - (n + 1) : Nat) : Int) == (C.B : Int)) = false := by simp; omega
  have hw1 : IntKind.i64.wrap (((C.B - (n + 1) : Nat) : Int) + 1) = ((C.B - n : Nat) : Int) := by rw [IntKind.wrap_i64]; omega
  have hw2 : ((C.B - (n + 1) : Nat) : Int) + 1 = ((C.B - n : Nat) : Int) := by omega
  have HB := hid ((Below.refl w.heap.size w).alloc (Nat.le_refl _) (.cells #[.int .i64 p.op, .int .u64 p.set.a, .int .u64 p.set.b, .int .u64 p.set.c, .int .u64 p.set.d, .int .i64 p.lo, .int .i64 p.hi, .int .i64 p.gr, .slice ta xs.length tc, .int .i64 i, .int .i64 k, .slice sa sp.length sc, .func (.func fid) #[] cap] 138))
  have d1 : (p.op == 1) = false := by rw [HO.out]; decide
  have d2 : (p.op == 2) = false := by rw [HO.out]; decide
  have d3 : (p.op == 3) = false := by rw [HO.out]; decide
  have d4 : (p.op == 4) = true := by rw [HO.out]; decide
  clear h hmf hin hok HA ho
  go_enter Try.func89, Try.ntmps89
  go_wp2_with fail
  refine wp_region_inv 15 (Grow) (by kernel_rfl) (by kernel_rfl) (Grow.refl) (fun _ _ _ => Grow.trans) ?_
  simp only [fill, dstOf, Act.put, List.take_succ_cons, List.take_zero, List.getElem?_toArray, List.getElem?_cons_zero, List.getElem?_cons_succ, Option.bind_some, List.setIfInBounds_toArray, List.set_cons_zero, List.set_cons_succ]
  refine Plan.det 1 rfl (Grow.refl) ?_
  apply Exists.intro
  refine ⟨fun vs x hR hF K hK => ?_, ?_⟩
  · clear hF
    go_simp
    exact hK _ _ (Grow.refl _) rfl
  refine Plan.det 2 rfl (Grow.refl) ?_
  apply Exists.intro
  refine ⟨fun vs x hR hF K hK => ?_, ?_⟩
  · have f0 := hF 0 _ _ rfl rfl; clear hF
    go_simp
    exact hK _ _ (Grow.refl _) rfl
  refine Plan.det 3 rfl (Grow.refl) ?_
  apply Exists.intro
  refine ⟨fun vs x hR hF K hK => ?_, ?_⟩
  · have f1 := hF 0 _ _ rfl rfl; clear hF
    go_simp
    exact hK _ _ (Grow.refl _) rfl
  refine Plan.det 4 rfl (Grow.refl) ?_
  apply Exists.intro
  refine ⟨fun vs x hR hF K hK => ?_, ?_⟩
  · have f2 := hF 0 _ _ rfl rfl; have hc := HC.out x hR; clear hF
    go_simp
    exact hK _ _ (Grow.refl _) rfl
  refine Plan.det 5 rfl (Grow.refl) ?_
  apply Exists.intro
  refine ⟨fun vs x hR hF K hK => ?_, ?_⟩
  · have f3 := hF 0 _ _ rfl rfl; clear hF
    go_simp
    exact hK _ _ (Grow.refl _) rfl
  refine Plan.det 6 rfl (Grow.refl) ?_
  apply Exists.intro
  refine ⟨fun vs x hR hF K hK => ?_, ?_⟩
  · have f4 := hF 0 _ _ rfl rfl; clear hF
    go_simp
    exact hK _ _ (Grow.refl _) rfl
  refine Plan.det 7 rfl (Grow.refl) ?_
  apply Exists.intro
  refine ⟨fun vs x hR hF K hK => ?_, ?_⟩
  · have f4 := hF 1 _ _ rfl rfl; have f5 := hF 0 _ _ rfl rfl; clear hF
    go_simp
    exact hK _ _ (Grow.refl _) rfl
  refine Plan.det 8 rfl (Grow.refl) ?_
  apply Exists.intro
  refine ⟨fun vs x hR hF K hK => ?_, ?_⟩
  · have f4 := hF 2 _ _ rfl rfl; have f6 := hF 0 _ _ rfl rfl; clear hF
    go_simp
    exact hK _ _ (Grow.refl _) rfl
  refine Plan.det 9 rfl (Grow.refl) ?_
  apply Exists.intro
  refine ⟨fun vs x hR hF K hK => ?_, ?_⟩
  · have f4 := hF 3 _ _ rfl rfl; have f7 := hF 0 _ _ rfl rfl; have hc := HC.out x hR; clear hF
    go_simp
    exact hK _ _ (Grow.refl _) rfl
  refine Plan.det 10 rfl (Grow.refl) ?_
  apply Exists.intro
  refine ⟨fun vs x hR hF K hK => ?_, ?_⟩
  · have f4 := hF 4 _ _ rfl rfl; clear hF
    go_simp
    exact hK _ _ (Grow.refl _) rfl
  refine Plan.det 11 rfl (Grow.refl) ?_
  apply Exists.intro
  refine ⟨fun vs x hR hF K hK => ?_, ?_⟩
  · have f4 := hF 5 _ _ rfl rfl; have f9 := hF 0 _ _ rfl rfl; clear hF
    go_simp
    exact hK _ _ (Grow.refl _) rfl
  refine Plan.det 12 rfl (Grow.refl) ?_
  apply Exists.intro
  refine ⟨fun vs x hR hF K hK => ?_, ?_⟩
  · have f4 := hF 6 _ _ rfl rfl; have f10 := hF 0 _ _ rfl rfl; clear hF
    go_simp
    exact hK _ _ (Grow.refl _) rfl
  refine Plan.det 13 rfl (Grow.refl) ?_
  apply Exists.intro
  refine ⟨fun vs x hR hF K hK => ?_, ?_⟩
  · have f4 := hF 7 _ _ rfl rfl; have f11 := hF 0 _ _ rfl rfl; have hc := HC.out x hR; clear hF
    go_simp
    exact hK _ _ (Grow.refl _) rfl
  refine Plan.det 14 rfl (Grow.refl) ?_
  apply Exists.intro
  refine ⟨fun vs x hR hF K hK => ?_, ?_⟩
  · have f4 := hF 8 _ _ rfl rfl; have f8 := hF 4 _ _ rfl rfl; have f12 := hF 0 _ _ rfl rfl; clear hF
    go_simp
    exact hK _ _ (Grow.refl _) rfl
  refine Plan.det 15 rfl (Grow.refl) ?_
  apply Exists.intro
  refine ⟨fun vs x hR hF K hK => ?_, ?_⟩
  · have f4 := hF 9 _ _ rfl rfl; have f13 := hF 0 _ _ rfl rfl; clear hF
    go_simp
    exact hK _ _ (Grow.refl _) rfl
  refine Plan.nil (fun vs x hR hF => ?_)
  have f0 := hF 14 _ _ rfl; have f1 := hF 13 _ _ rfl; have f2 := hF 12 _ _ rfl; have f3 := hF 11 _ _ rfl; have f4 := hF 10 _ _ rfl; have f5 := hF 9 _ _ rfl; have f6 := hF 8 _ _ rfl; have f7 := hF 7 _ _ rfl; have f8 := hF 6 _ _ rfl; have f9 := hF 5 _ _ rfl; have f10 := hF 4 _ _ rfl; have f11 := hF 3 _ _ rfl; have f12 := hF 2 _ _ rfl; have f13 := hF 1 _ _ rfl; have f14 := hF 0 _ _ rfl
  clear hF
  simp only [f0, f1, f2, f3, f4, f5, f6, f7, f8, f9, f10, f11, f12, f13, f14]
  clear f0 f1 f2 f3 f4 f5 f6 f7 f8 f9 f10 f11 f12 f13 f14
  simp only [List.drop_succ_cons, List.drop_zero]
  have hbx : Below w.heap.size w x := below_grow HB.out (by simp) hR
  have HBX := hid hbx
  have hfz := HMF.out x hR
  have HR := hid (HC.out x hR).2
  have HPX := hid (HP.out.later hbx)
  clear HC hR hbx qc
  have qc := HPX.out.st.c
  have q := HR.out.c13
  go_wp2_with fail
  obtain ⟨hst, hbut⟩ := HPX.out.st.step
  have HRY := hid (HR.out.but hbut (HPX.out.st.nS HR.out (by decide) (by decide)))
  have HPY : Hid (Pre C n (C.B - n) sp K (.slice sa sp.length sc) (.func (.func fid) #[] cap) (x.setCell ⟨C.M, 2, none⟩ (.int .i64 ((C.B - n : Nat) : Int)))) :=
    ⟨hst, HPX.out.span.but hbut, HPX.out.ok, HPX.out.k.but HPX.out.st hbut, HPX.out.kok.mono (by omega)⟩
  have HBY := hid ((But.of_below HBX.out).trans hbut)
  clear HPX HR HBX hfz qc q hst hbut
  generalize x.setCell ⟨C.M, 2, none⟩ (.int .i64 ((C.B - n : Nat) : Int)) = y at *
  have HC := hid (fun (x : World) (hx : Grow y.drew x) => (⟨(HRY.out.grow hx).c13, ((HPY.out.st.later (grow_below hx)).m.cell 5), ((HPY.out.st.later (grow_below hx)).m.cell 6), ((HPY.out.st.later (grow_below hx)).m.cell 7), ((HPY.out.st.later (grow_below hx)).m.cell 8), ((HPY.out.st.later (grow_below hx)).m.cell 9), ((HPY.out.st.later (grow_below hx)).m.cell 10), ((HPY.out.st.later (grow_below hx)).m.cell 11), ((HPY.out.st.later (grow_below hx)).m.cell 12), ((HPY.out.st.later (grow_below hx)).m.cell 13)⟩ : _ ∧ _ ∧ _ ∧ _ ∧ _ ∧ _ ∧ _ ∧ _ ∧ _ ∧ _))
  refine wp_region_inv 6 (Grow) (by kernel_rfl) (by kernel_rfl) (Grow.refl) (fun _ _ _ => Grow.trans) ?_
  simp only [fill, dstOf, Act.put, List.take_succ_cons, List.take_zero, List.getElem?_toArray, List.getElem?_cons_zero, List.getElem?_cons_succ, Option.bind_some, List.setIfInBounds_toArray, List.set_cons_zero, List.set_cons_succ]
  refine Plan.det 1 rfl (Grow.refl) ?_
  apply Exists.intro
  refine ⟨fun vs x hR hF K hK => ?_, ?_⟩
  · clear hF
    go_simp
    exact hK _ _ (Grow.refl _) rfl
  refine Plan.det 2 rfl (Grow.refl) ?_
  apply Exists.intro
  refine ⟨fun vs x hR hF K hK => ?_, ?_⟩
  · have f0 := hF 0 _ _ rfl rfl; clear hF
    go_simp
    exact hK _ _ (Grow.refl _) rfl
  refine Plan.det 3 rfl (Grow.refl) ?_
  apply Exists.intro
  refine ⟨fun vs x hR hF K hK => ?_, ?_⟩
  · have f1 := hF 0 _ _ rfl rfl; clear hF
    go_simp
    exact hK _ _ (Grow.refl _) rfl
  refine Plan.det 4 rfl (Grow.refl) ?_
  apply Exists.intro
  refine ⟨fun vs x hR hF K hK => ?_, ?_⟩
  · have f2 := hF 0 _ _ rfl rfl; clear hF
    go_simp
    exact hK _ _ (Grow.refl _) rfl
  refine Plan.det 5 rfl (Grow.refl) ?_
  apply Exists.intro
  refine ⟨fun vs x hR hF K hK => ?_, ?_⟩
  · have f3 := hF 0 _ _ rfl rfl; have hc := HC.out x hR; clear hF
    go_simp
    exact hK _ _ (Grow.refl _) rfl
  refine Plan.det 6 rfl (Grow.refl) ?_
  apply Exists.intro
  refine ⟨fun vs x hR hF K hK => ?_, ?_⟩
  · have hc := HC.out x hR; clear hF
    go_simp
    exact hK _ _ (Grow.refl _) rfl
  refine Plan.nil (fun vs x hR hF => ?_)
  have f0 := hF 5 _ _ rfl; have f1 := hF 4 _ _ rfl; have f2 := hF 3 _ _ rfl; have f3 := hF 2 _ _ rfl; have f4 := hF 1 _ _ rfl; have f5 := hF 0 _ _ rfl
  clear hF
  simp only [f0, f1, f2, f3, f4, f5]
  clear f0 f1 f2 f3 f4 f5
  simp only [List.drop_succ_cons, List.drop_zero]
  have HPZ := hid (HPY.out.later (grow_below hR))
  have HBZ := hid (HBY.out.trans (But.of_below (grow_below hR)))
  clear HC hR
  go_wp2_with fail
  refine (HHA.out _ p xs ta tc i k sp K sa sc fid cap HPZ.out HO.out HIN.out HOK.out hik hks).mono ?_
  rintro e w' ⟨o, m, h1, rfl, h3, h4, h5⟩
  have HG : Hid (Good C (Ev C.str C.lines (.try (.mk p xs) i k) sp K (n + 1)) w (.returned (.bool o.isFound)) w') := ⟨o, m, h1, rfl, h3, HBZ.out.trans h4, h5⟩
  clear h1 h3 h4 h5
  generalize o.isFound = fo at *
  go_wp2_with fail
  go_ret
  exact HG.out
set_option maxRecDepth 100000 in
set_option maxHeartbeats 8000000 in
theorem try5 (n : Nat) (HA : ArmC C n 5 82 (fun t => #[t, .pointer (some ⟨C.MB, 0, none⟩)])) (w : World) (p : Pay) (xs : List Re) (ta : Option Addr) (tc i k : Nat) (sp : Spans) (K : Kont) (sa : Option Addr) (sc fid : Nat) (cap : Array Value) (h : Pre C (n + 1) (C.B - (n + 1) + 1) sp K (.slice sa sp.length sc) (.func (.func fid) #[] cap) w) (ho : p.op = 5) (hin : (Re.mk p xs).In C.w0 (p.cells (.slice ta xs.length tc))) (hok : (Re.mk p xs).ok C.N) (hik : i ≤ k) (hks : k ≤ C.s.size) :
    Calls Try.prog 89 #[.pointer (some ⟨C.M, 0, none⟩), .agg #[.int .i64 p.op, .int .u64 p.set.a, .int .u64 p.set.b, .int .u64 p.set.c, .int .u64 p.set.d, .int .i64 p.lo, .int .i64 p.hi, .int .i64 p.gr, .slice ta xs.length tc, .int .i64 i, .int .i64 k, .slice sa sp.length sc, .func (.func fid) #[] cap]] w (Good C (Ev C.str C.lines (.try (.mk p xs) i k) sp K (n + 1)) w) := by
  have HP := hid h
  have HHA := hid HA
  have HO := hid ho
  have HIN := hid hin
  have HOK := hid hok
  have hnB := h.st.nB
  have hbig := h.st.big
  have qc := (h.later ((Below.refl w.heap.size w).alloc (Nat.le_refl _) (.cells #[.int .i64 p.op, .int .u64 p.set.a, .int .u64 p.set.b, .int .u64 p.set.c, .int .u64 p.set.d, .int .i64 p.lo, .int .i64 p.hi, .int .i64 p.gr, .slice ta xs.length tc, .int .i64 i, .int .i64 k, .slice sa sp.length sc, .func (.func fid) #[] cap] 138))).st.c
  have HC := hid (fun (x : World) (hx : Grow (((w.alloc (.cells #[.int .i64 p.op, .int .u64 p.set.a, .int .u64 p.set.b, .int .u64 p.set.c, .int .u64 p.set.d, .int .i64 p.lo, .int .i64 p.hi, .int .i64 p.gr, .slice ta xs.length tc, .int .i64 i, .int .i64 k, .slice sa sp.length sc, .func (.func fid) #[] cap] 138)))).drew x) => (⟨(leafHC (cs := [.int .i64 p.op, .int .u64 p.set.a, .int .u64 p.set.b, .int .u64 p.set.c, .int .u64 p.set.d, .int .i64 p.lo, .int .i64 p.hi, .int .i64 p.gr, .slice ta xs.length tc, .int .i64 i, .int .i64 k, .slice sa sp.length sc, .func (.func fid) #[] cap]) h hx).2.c, (leafHC (cs := [.int .i64 p.op, .int .u64 p.set.a, .int .u64 p.set.b, .int .u64 p.set.c, .int .u64 p.set.d, .int .i64 p.lo, .int .i64 p.hi, .int .i64 p.gr, .slice ta xs.length tc, .int .i64 i, .int .i64 k, .slice sa sp.length sc, .func (.func fid) #[] cap]) h hx).1⟩ : _ ∧ _))
  have hmf : ∀ x : World, Grow (((w.alloc (.cells #[.int .i64 p.op, .int .u64 p.set.a, .int .u64 p.set.b, .int .u64 p.set.c, .int .u64 p.set.d, .int .i64 p.lo, .int .i64 p.hi, .int .i64 p.gr, .slice ta xs.length tc, .int .i64 i, .int .i64 k, .slice sa sp.length sc, .func (.func fid) #[] cap] 138)))).drew x → x.frozen? ⟨C.M, 2, none⟩ = false := fun x hx => (leafHC (cs := [.int .i64 p.op, .int .u64 p.set.a, .int .u64 p.set.b, .int .u64 p.set.c, .int .u64 p.set.d, .int .i64 p.lo, .int .i64 p.hi, .int .i64 p.gr, .slice ta xs.length tc, .int .i64 i, .int .i64 k, .slice sa sp.length sc, .func (.func fid) #[] cap]) h hx).2.m.free 2
  have HMF := hid hmf
  have d0 : (((C.B - (n + 1) : Nat) : Int) == (C.B : Int)) = false := by simp; omega
  have hw1 : IntKind.i64.wrap (((C.B - (n + 1) : Nat) : Int) + 1) = ((C.B - n : Nat) : Int) := by rw [IntKind.wrap_i64]; omega
  have hw2 : ((C.B - (n + 1) : Nat) : Int) + 1 = ((C.B - n : Nat) : Int) := by omega
  have HB := hid ((Below.refl w.heap.size w).alloc (Nat.le_refl _) (.cells #[.int .i64 p.op, .int .u64 p.set.a, .int .u64 p.set.b, .int .u64 p.set.c, .int .u64 p.set.d, .int .i64 p.lo, .int .i64 p.hi, .int .i64 p.gr, .slice ta xs.length tc, .int .i64 i, .int .i64 k, .slice sa sp.length sc, .func (.func fid) #[] cap] 138))
  have d1 : (p.op == 1) = false := by rw [HO.out]; decide
  have d2 : (p.op == 2) = false := by rw [HO.out]; decide
  have d3 : (p.op == 3) = false := by rw [HO.out]; decide
  have d4 : (p.op == 4) = false := by rw [HO.out]; decide
  have d5 : (p.op == 5) = true := by rw [HO.out]; decide
  clear h hmf hin hok HA ho
  go_enter Try.func89, Try.ntmps89
  go_wp2_with fail
  refine wp_region_inv 15 (Grow) (by kernel_rfl) (by kernel_rfl) (Grow.refl) (fun _ _ _ => Grow.trans) ?_
  simp only [fill, dstOf, Act.put, List.take_succ_cons, List.take_zero, List.getElem?_toArray, List.getElem?_cons_zero, List.getElem?_cons_succ, Option.bind_some, List.setIfInBounds_toArray, List.set_cons_zero, List.set_cons_succ]
  refine Plan.det 1 rfl (Grow.refl) ?_
  apply Exists.intro
  refine ⟨fun vs x hR hF K hK => ?_, ?_⟩
  · clear hF
    go_simp
    exact hK _ _ (Grow.refl _) rfl
  refine Plan.det 2 rfl (Grow.refl) ?_
  apply Exists.intro
  refine ⟨fun vs x hR hF K hK => ?_, ?_⟩
  · have f0 := hF 0 _ _ rfl rfl; clear hF
    go_simp
    exact hK _ _ (Grow.refl _) rfl
  refine Plan.det 3 rfl (Grow.refl) ?_
  apply Exists.intro
  refine ⟨fun vs x hR hF K hK => ?_, ?_⟩
  · have f1 := hF 0 _ _ rfl rfl; clear hF
    go_simp
    exact hK _ _ (Grow.refl _) rfl
  refine Plan.det 4 rfl (Grow.refl) ?_
  apply Exists.intro
  refine ⟨fun vs x hR hF K hK => ?_, ?_⟩
  · have f2 := hF 0 _ _ rfl rfl; have hc := HC.out x hR; clear hF
    go_simp
    exact hK _ _ (Grow.refl _) rfl
  refine Plan.det 5 rfl (Grow.refl) ?_
  apply Exists.intro
  refine ⟨fun vs x hR hF K hK => ?_, ?_⟩
  · have f3 := hF 0 _ _ rfl rfl; clear hF
    go_simp
    exact hK _ _ (Grow.refl _) rfl
  refine Plan.det 6 rfl (Grow.refl) ?_
  apply Exists.intro
  refine ⟨fun vs x hR hF K hK => ?_, ?_⟩
  · have f4 := hF 0 _ _ rfl rfl; clear hF
    go_simp
    exact hK _ _ (Grow.refl _) rfl
  refine Plan.det 7 rfl (Grow.refl) ?_
  apply Exists.intro
  refine ⟨fun vs x hR hF K hK => ?_, ?_⟩
  · have f4 := hF 1 _ _ rfl rfl; have f5 := hF 0 _ _ rfl rfl; clear hF
    go_simp
    exact hK _ _ (Grow.refl _) rfl
  refine Plan.det 8 rfl (Grow.refl) ?_
  apply Exists.intro
  refine ⟨fun vs x hR hF K hK => ?_, ?_⟩
  · have f4 := hF 2 _ _ rfl rfl; have f6 := hF 0 _ _ rfl rfl; clear hF
    go_simp
    exact hK _ _ (Grow.refl _) rfl
  refine Plan.det 9 rfl (Grow.refl) ?_
  apply Exists.intro
  refine ⟨fun vs x hR hF K hK => ?_, ?_⟩
  · have f4 := hF 3 _ _ rfl rfl; have f7 := hF 0 _ _ rfl rfl; have hc := HC.out x hR; clear hF
    go_simp
    exact hK _ _ (Grow.refl _) rfl
  refine Plan.det 10 rfl (Grow.refl) ?_
  apply Exists.intro
  refine ⟨fun vs x hR hF K hK => ?_, ?_⟩
  · have f4 := hF 4 _ _ rfl rfl; clear hF
    go_simp
    exact hK _ _ (Grow.refl _) rfl
  refine Plan.det 11 rfl (Grow.refl) ?_
  apply Exists.intro
  refine ⟨fun vs x hR hF K hK => ?_, ?_⟩
  · have f4 := hF 5 _ _ rfl rfl; have f9 := hF 0 _ _ rfl rfl; clear hF
    go_simp
    exact hK _ _ (Grow.refl _) rfl
  refine Plan.det 12 rfl (Grow.refl) ?_
  apply Exists.intro
  refine ⟨fun vs x hR hF K hK => ?_, ?_⟩
  · have f4 := hF 6 _ _ rfl rfl; have f10 := hF 0 _ _ rfl rfl; clear hF
    go_simp
    exact hK _ _ (Grow.refl _) rfl
  refine Plan.det 13 rfl (Grow.refl) ?_
  apply Exists.intro
  refine ⟨fun vs x hR hF K hK => ?_, ?_⟩
  · have f4 := hF 7 _ _ rfl rfl; have f11 := hF 0 _ _ rfl rfl; have hc := HC.out x hR; clear hF
    go_simp
    exact hK _ _ (Grow.refl _) rfl
  refine Plan.det 14 rfl (Grow.refl) ?_
  apply Exists.intro
  refine ⟨fun vs x hR hF K hK => ?_, ?_⟩
  · have f4 := hF 8 _ _ rfl rfl; have f8 := hF 4 _ _ rfl rfl; have f12 := hF 0 _ _ rfl rfl; clear hF
    go_simp
    exact hK _ _ (Grow.refl _) rfl
  refine Plan.det 15 rfl (Grow.refl) ?_
  apply Exists.intro
  refine ⟨fun vs x hR hF K hK => ?_, ?_⟩
  · have f4 := hF 9 _ _ rfl rfl; have f13 := hF 0 _ _ rfl rfl; clear hF
    go_simp
    exact hK _ _ (Grow.refl _) rfl
  refine Plan.nil (fun vs x hR hF => ?_)
  have f0 := hF 14 _ _ rfl; have f1 := hF 13 _ _ rfl; have f2 := hF 12 _ _ rfl; have f3 := hF 11 _ _ rfl; have f4 := hF 10 _ _ rfl; have f5 := hF 9 _ _ rfl; have f6 := hF 8 _ _ rfl; have f7 := hF 7 _ _ rfl; have f8 := hF 6 _ _ rfl; have f9 := hF 5 _ _ rfl; have f10 := hF 4 _ _ rfl; have f11 := hF 3 _ _ rfl; have f12 := hF 2 _ _ rfl; have f13 := hF 1 _ _ rfl; have f14 := hF 0 _ _ rfl
  clear hF
  simp only [f0, f1, f2, f3, f4, f5, f6, f7, f8, f9, f10, f11, f12, f13, f14]
  clear f0 f1 f2 f3 f4 f5 f6 f7 f8 f9 f10 f11 f12 f13 f14
  simp only [List.drop_succ_cons, List.drop_zero]
  have hbx : Below w.heap.size w x := below_grow HB.out (by simp) hR
  have HBX := hid hbx
  have hfz := HMF.out x hR
  have HR := hid (HC.out x hR).2
  have HPX := hid (HP.out.later hbx)
  clear HC hR hbx qc
  have qc := HPX.out.st.c
  have q := HR.out.c13
  go_wp2_with fail
  obtain ⟨hst, hbut⟩ := HPX.out.st.step
  have HRY := hid (HR.out.but hbut (HPX.out.st.nS HR.out (by decide) (by decide)))
  have HPY : Hid (Pre C n (C.B - n) sp K (.slice sa sp.length sc) (.func (.func fid) #[] cap) (x.setCell ⟨C.M, 2, none⟩ (.int .i64 ((C.B - n : Nat) : Int)))) :=
    ⟨hst, HPX.out.span.but hbut, HPX.out.ok, HPX.out.k.but HPX.out.st hbut, HPX.out.kok.mono (by omega)⟩
  have HBY := hid ((But.of_below HBX.out).trans hbut)
  clear HPX HR HBX hfz qc q hst hbut
  generalize x.setCell ⟨C.M, 2, none⟩ (.int .i64 ((C.B - n : Nat) : Int)) = y at *
  have HC := hid (fun (x : World) (hx : Grow y.drew x) => (⟨(HRY.out.grow hx).c13, ((HPY.out.st.later (grow_below hx)).m.cell 5), ((HPY.out.st.later (grow_below hx)).m.cell 6), ((HPY.out.st.later (grow_below hx)).m.cell 7), ((HPY.out.st.later (grow_below hx)).m.cell 8), ((HPY.out.st.later (grow_below hx)).m.cell 9), ((HPY.out.st.later (grow_below hx)).m.cell 10), ((HPY.out.st.later (grow_below hx)).m.cell 11), ((HPY.out.st.later (grow_below hx)).m.cell 12), ((HPY.out.st.later (grow_below hx)).m.cell 13)⟩ : _ ∧ _ ∧ _ ∧ _ ∧ _ ∧ _ ∧ _ ∧ _ ∧ _ ∧ _))
  refine wp_region_inv 6 (Grow) (by kernel_rfl) (by kernel_rfl) (Grow.refl) (fun _ _ _ => Grow.trans) ?_
  simp only [fill, dstOf, Act.put, List.take_succ_cons, List.take_zero, List.getElem?_toArray, List.getElem?_cons_zero, List.getElem?_cons_succ, Option.bind_some, List.setIfInBounds_toArray, List.set_cons_zero, List.set_cons_succ]
  refine Plan.det 1 rfl (Grow.refl) ?_
  apply Exists.intro
  refine ⟨fun vs x hR hF K hK => ?_, ?_⟩
  · clear hF
    go_simp
    exact hK _ _ (Grow.refl _) rfl
  refine Plan.det 2 rfl (Grow.refl) ?_
  apply Exists.intro
  refine ⟨fun vs x hR hF K hK => ?_, ?_⟩
  · have f0 := hF 0 _ _ rfl rfl; clear hF
    go_simp
    exact hK _ _ (Grow.refl _) rfl
  refine Plan.det 3 rfl (Grow.refl) ?_
  apply Exists.intro
  refine ⟨fun vs x hR hF K hK => ?_, ?_⟩
  · have f1 := hF 0 _ _ rfl rfl; clear hF
    go_simp
    exact hK _ _ (Grow.refl _) rfl
  refine Plan.det 4 rfl (Grow.refl) ?_
  apply Exists.intro
  refine ⟨fun vs x hR hF K hK => ?_, ?_⟩
  · have f2 := hF 0 _ _ rfl rfl; clear hF
    go_simp
    exact hK _ _ (Grow.refl _) rfl
  refine Plan.det 5 rfl (Grow.refl) ?_
  apply Exists.intro
  refine ⟨fun vs x hR hF K hK => ?_, ?_⟩
  · have f3 := hF 0 _ _ rfl rfl; have hc := HC.out x hR; clear hF
    go_simp
    exact hK _ _ (Grow.refl _) rfl
  refine Plan.det 6 rfl (Grow.refl) ?_
  apply Exists.intro
  refine ⟨fun vs x hR hF K hK => ?_, ?_⟩
  · have hc := HC.out x hR; clear hF
    go_simp
    exact hK _ _ (Grow.refl _) rfl
  refine Plan.nil (fun vs x hR hF => ?_)
  have f0 := hF 5 _ _ rfl; have f1 := hF 4 _ _ rfl; have f2 := hF 3 _ _ rfl; have f3 := hF 2 _ _ rfl; have f4 := hF 1 _ _ rfl; have f5 := hF 0 _ _ rfl
  clear hF
  simp only [f0, f1, f2, f3, f4, f5]
  clear f0 f1 f2 f3 f4 f5
  simp only [List.drop_succ_cons, List.drop_zero]
  have HPZ := hid (HPY.out.later (grow_below hR))
  have HBZ := hid (HBY.out.trans (But.of_below (grow_below hR)))
  clear HC hR
  go_wp2_with fail
  refine (HHA.out _ p xs ta tc i k sp K sa sc fid cap HPZ.out HO.out HIN.out HOK.out hik hks).mono ?_
  rintro e w' ⟨o, m, h1, rfl, h3, h4, h5⟩
  have HG : Hid (Good C (Ev C.str C.lines (.try (.mk p xs) i k) sp K (n + 1)) w (.returned (.bool o.isFound)) w') := ⟨o, m, h1, rfl, h3, HBZ.out.trans h4, h5⟩
  clear h1 h3 h4 h5
  generalize o.isFound = fo at *
  go_wp2_with fail
  go_ret
  exact HG.out
set_option maxRecDepth 100000 in
set_option maxHeartbeats 8000000 in
theorem try6 (n : Nat) (HA : ArmC C n 6 85 (fun t => #[.pointer (some ⟨C.M, 0, none⟩), t])) (w : World) (p : Pay) (xs : List Re) (ta : Option Addr) (tc i k : Nat) (sp : Spans) (K : Kont) (sa : Option Addr) (sc fid : Nat) (cap : Array Value) (h : Pre C (n + 1) (C.B - (n + 1) + 1) sp K (.slice sa sp.length sc) (.func (.func fid) #[] cap) w) (ho : p.op = 6) (hin : (Re.mk p xs).In C.w0 (p.cells (.slice ta xs.length tc))) (hok : (Re.mk p xs).ok C.N) (hik : i ≤ k) (hks : k ≤ C.s.size) :
    Calls Try.prog 89 #[.pointer (some ⟨C.M, 0, none⟩), .agg #[.int .i64 p.op, .int .u64 p.set.a, .int .u64 p.set.b, .int .u64 p.set.c, .int .u64 p.set.d, .int .i64 p.lo, .int .i64 p.hi, .int .i64 p.gr, .slice ta xs.length tc, .int .i64 i, .int .i64 k, .slice sa sp.length sc, .func (.func fid) #[] cap]] w (Good C (Ev C.str C.lines (.try (.mk p xs) i k) sp K (n + 1)) w) := by
  have HP := hid h
  have HHA := hid HA
  have HO := hid ho
  have HIN := hid hin
  have HOK := hid hok
  have hnB := h.st.nB
  have hbig := h.st.big
  have qc := (h.later ((Below.refl w.heap.size w).alloc (Nat.le_refl _) (.cells #[.int .i64 p.op, .int .u64 p.set.a, .int .u64 p.set.b, .int .u64 p.set.c, .int .u64 p.set.d, .int .i64 p.lo, .int .i64 p.hi, .int .i64 p.gr, .slice ta xs.length tc, .int .i64 i, .int .i64 k, .slice sa sp.length sc, .func (.func fid) #[] cap] 138))).st.c
  have HC := hid (fun (x : World) (hx : Grow (((w.alloc (.cells #[.int .i64 p.op, .int .u64 p.set.a, .int .u64 p.set.b, .int .u64 p.set.c, .int .u64 p.set.d, .int .i64 p.lo, .int .i64 p.hi, .int .i64 p.gr, .slice ta xs.length tc, .int .i64 i, .int .i64 k, .slice sa sp.length sc, .func (.func fid) #[] cap] 138)))).drew x) => (⟨(leafHC (cs := [.int .i64 p.op, .int .u64 p.set.a, .int .u64 p.set.b, .int .u64 p.set.c, .int .u64 p.set.d, .int .i64 p.lo, .int .i64 p.hi, .int .i64 p.gr, .slice ta xs.length tc, .int .i64 i, .int .i64 k, .slice sa sp.length sc, .func (.func fid) #[] cap]) h hx).2.c, (leafHC (cs := [.int .i64 p.op, .int .u64 p.set.a, .int .u64 p.set.b, .int .u64 p.set.c, .int .u64 p.set.d, .int .i64 p.lo, .int .i64 p.hi, .int .i64 p.gr, .slice ta xs.length tc, .int .i64 i, .int .i64 k, .slice sa sp.length sc, .func (.func fid) #[] cap]) h hx).1⟩ : _ ∧ _))
  have hmf : ∀ x : World, Grow (((w.alloc (.cells #[.int .i64 p.op, .int .u64 p.set.a, .int .u64 p.set.b, .int .u64 p.set.c, .int .u64 p.set.d, .int .i64 p.lo, .int .i64 p.hi, .int .i64 p.gr, .slice ta xs.length tc, .int .i64 i, .int .i64 k, .slice sa sp.length sc, .func (.func fid) #[] cap] 138)))).drew x → x.frozen? ⟨C.M, 2, none⟩ = false := fun x hx => (leafHC (cs := [.int .i64 p.op, .int .u64 p.set.a, .int .u64 p.set.b, .int .u64 p.set.c, .int .u64 p.set.d, .int .i64 p.lo, .int .i64 p.hi, .int .i64 p.gr, .slice ta xs.length tc, .int .i64 i, .int .i64 k, .slice sa sp.length sc, .func (.func fid) #[] cap]) h hx).2.m.free 2
  have HMF := hid hmf
  have d0 : (((C.B - (n + 1) : Nat) : Int) == (C.B : Int)) = false := by simp; omega
  have hw1 : IntKind.i64.wrap (((C.B - (n + 1) : Nat) : Int) + 1) = ((C.B - n : Nat) : Int) := by rw [IntKind.wrap_i64]; omega
  have hw2 : ((C.B - (n + 1) : Nat) : Int) + 1 = ((C.B - n : Nat) : Int) := by omega
  have HB := hid ((Below.refl w.heap.size w).alloc (Nat.le_refl _) (.cells #[.int .i64 p.op, .int .u64 p.set.a, .int .u64 p.set.b, .int .u64 p.set.c, .int .u64 p.set.d, .int .i64 p.lo, .int .i64 p.hi, .int .i64 p.gr, .slice ta xs.length tc, .int .i64 i, .int .i64 k, .slice sa sp.length sc, .func (.func fid) #[] cap] 138))
  have d1 : (p.op == 1) = false := by rw [HO.out]; decide
  have d2 : (p.op == 2) = false := by rw [HO.out]; decide
  have d3 : (p.op == 3) = false := by rw [HO.out]; decide
  have d4 : (p.op == 4) = false := by rw [HO.out]; decide
  have d5 : (p.op == 5) = false := by rw [HO.out]; decide
  have d6 : (p.op == 6) = true := by rw [HO.out]; decide
  clear h hmf hin hok HA ho
  go_enter Try.func89, Try.ntmps89
  go_wp2_with fail
  refine wp_region_inv 15 (Grow) (by kernel_rfl) (by kernel_rfl) (Grow.refl) (fun _ _ _ => Grow.trans) ?_
  simp only [fill, dstOf, Act.put, List.take_succ_cons, List.take_zero, List.getElem?_toArray, List.getElem?_cons_zero, List.getElem?_cons_succ, Option.bind_some, List.setIfInBounds_toArray, List.set_cons_zero, List.set_cons_succ]
  refine Plan.det 1 rfl (Grow.refl) ?_
  apply Exists.intro
  refine ⟨fun vs x hR hF K hK => ?_, ?_⟩
  · clear hF
    go_simp
    exact hK _ _ (Grow.refl _) rfl
  refine Plan.det 2 rfl (Grow.refl) ?_
  apply Exists.intro
  refine ⟨fun vs x hR hF K hK => ?_, ?_⟩
  · have f0 := hF 0 _ _ rfl rfl; clear hF
    go_simp
    exact hK _ _ (Grow.refl _) rfl
  refine Plan.det 3 rfl (Grow.refl) ?_
  apply Exists.intro
  refine ⟨fun vs x hR hF K hK => ?_, ?_⟩
  · have f1 := hF 0 _ _ rfl rfl; clear hF
    go_simp
    exact hK _ _ (Grow.refl _) rfl
  refine Plan.det 4 rfl (Grow.refl) ?_
  apply Exists.intro
  refine ⟨fun vs x hR hF K hK => ?_, ?_⟩
  · have f2 := hF 0 _ _ rfl rfl; have hc := HC.out x hR; clear hF
    go_simp
    exact hK _ _ (Grow.refl _) rfl
  refine Plan.det 5 rfl (Grow.refl) ?_
  apply Exists.intro
  refine ⟨fun vs x hR hF K hK => ?_, ?_⟩
  · have f3 := hF 0 _ _ rfl rfl; clear hF
    go_simp
    exact hK _ _ (Grow.refl _) rfl
  refine Plan.det 6 rfl (Grow.refl) ?_
  apply Exists.intro
  refine ⟨fun vs x hR hF K hK => ?_, ?_⟩
  · have f4 := hF 0 _ _ rfl rfl; clear hF
    go_simp
    exact hK _ _ (Grow.refl _) rfl
  refine Plan.det 7 rfl (Grow.refl) ?_
  apply Exists.intro
  refine ⟨fun vs x hR hF K hK => ?_, ?_⟩
  · have f4 := hF 1 _ _ rfl rfl; have f5 := hF 0 _ _ rfl rfl; clear hF
    go_simp
    exact hK _ _ (Grow.refl _) rfl
  refine Plan.det 8 rfl (Grow.refl) ?_
  apply Exists.intro
  refine ⟨fun vs x hR hF K hK => ?_, ?_⟩
  · have f4 := hF 2 _ _ rfl rfl; have f6 := hF 0 _ _ rfl rfl; clear hF
    go_simp
    exact hK _ _ (Grow.refl _) rfl
  refine Plan.det 9 rfl (Grow.refl) ?_
  apply Exists.intro
  refine ⟨fun vs x hR hF K hK => ?_, ?_⟩
  · have f4 := hF 3 _ _ rfl rfl; have f7 := hF 0 _ _ rfl rfl; have hc := HC.out x hR; clear hF
    go_simp
    exact hK _ _ (Grow.refl _) rfl
  refine Plan.det 10 rfl (Grow.refl) ?_
  apply Exists.intro
  refine ⟨fun vs x hR hF K hK => ?_, ?_⟩
  · have f4 := hF 4 _ _ rfl rfl; clear hF
    go_simp
    exact hK _ _ (Grow.refl _) rfl
  refine Plan.det 11 rfl (Grow.refl) ?_
  apply Exists.intro
  refine ⟨fun vs x hR hF K hK => ?_, ?_⟩
  · have f4 := hF 5 _ _ rfl rfl; have f9 := hF 0 _ _ rfl rfl; clear hF
    go_simp
    exact hK _ _ (Grow.refl _) rfl
  refine Plan.det 12 rfl (Grow.refl) ?_
  apply Exists.intro
  refine ⟨fun vs x hR hF K hK => ?_, ?_⟩
  · have f4 := hF 6 _ _ rfl rfl; have f10 := hF 0 _ _ rfl rfl; clear hF
    go_simp
    exact hK _ _ (Grow.refl _) rfl
  refine Plan.det 13 rfl (Grow.refl) ?_
  apply Exists.intro
  refine ⟨fun vs x hR hF K hK => ?_, ?_⟩
  · have f4 := hF 7 _ _ rfl rfl; have f11 := hF 0 _ _ rfl rfl; have hc := HC.out x hR; clear hF
    go_simp
    exact hK _ _ (Grow.refl _) rfl
  refine Plan.det 14 rfl (Grow.refl) ?_
  apply Exists.intro
  refine ⟨fun vs x hR hF K hK => ?_, ?_⟩
  · have f4 := hF 8 _ _ rfl rfl; have f8 := hF 4 _ _ rfl rfl; have f12 := hF 0 _ _ rfl rfl; clear hF
    go_simp
    exact hK _ _ (Grow.refl _) rfl
  refine Plan.det 15 rfl (Grow.refl) ?_
  apply Exists.intro
  refine ⟨fun vs x hR hF K hK => ?_, ?_⟩
  · have f4 := hF 9 _ _ rfl rfl; have f13 := hF 0 _ _ rfl rfl; clear hF
    go_simp
    exact hK _ _ (Grow.refl _) rfl
  refine Plan.nil (fun vs x hR hF => ?_)
  have f0 := hF 14 _ _ rfl; have f1 := hF 13 _ _ rfl; have f2 := hF 12 _ _ rfl; have f3 := hF 11 _ _ rfl; have f4 := hF 10 _ _ rfl; have f5 := hF 9 _ _ rfl; have f6 := hF 8 _ _ rfl; have f7 := hF 7 _ _ rfl; have f8 := hF 6 _ _ rfl; have f9 := hF 5 _ _ rfl; have f10 := hF 4 _ _ rfl; have f11 := hF 3 _ _ rfl; have f12 := hF 2 _ _ rfl; have f13 := hF 1 _ _ rfl; have f14 := hF 0 _ _ rfl
  clear hF
  simp only [f0, f1, f2, f3, f4, f5, f6, f7, f8, f9, f10, f11, f12, f13, f14]
  clear f0 f1 f2 f3 f4 f5 f6 f7 f8 f9 f10 f11 f12 f13 f14
  simp only [List.drop_succ_cons, List.drop_zero]
  have hbx : Below w.heap.size w x := below_grow HB.out (by simp) hR
  have HBX := hid hbx
  have hfz := HMF.out x hR
  have HR := hid (HC.out x hR).2
  have HPX := hid (HP.out.later hbx)
  clear HC hR hbx qc
  have qc := HPX.out.st.c
  have q := HR.out.c13
  go_wp2_with fail
  obtain ⟨hst, hbut⟩ := HPX.out.st.step
  have HRY := hid (HR.out.but hbut (HPX.out.st.nS HR.out (by decide) (by decide)))
  have HPY : Hid (Pre C n (C.B - n) sp K (.slice sa sp.length sc) (.func (.func fid) #[] cap) (x.setCell ⟨C.M, 2, none⟩ (.int .i64 ((C.B - n : Nat) : Int)))) :=
    ⟨hst, HPX.out.span.but hbut, HPX.out.ok, HPX.out.k.but HPX.out.st hbut, HPX.out.kok.mono (by omega)⟩
  have HBY := hid ((But.of_below HBX.out).trans hbut)
  clear HPX HR HBX hfz qc q hst hbut
  generalize x.setCell ⟨C.M, 2, none⟩ (.int .i64 ((C.B - n : Nat) : Int)) = y at *
  have HC := hid (fun (x : World) (hx : Grow y.drew x) => (⟨(HRY.out.grow hx).c13, ((HPY.out.st.later (grow_below hx)).m.cell 5), ((HPY.out.st.later (grow_below hx)).m.cell 6), ((HPY.out.st.later (grow_below hx)).m.cell 7), ((HPY.out.st.later (grow_below hx)).m.cell 8), ((HPY.out.st.later (grow_below hx)).m.cell 9), ((HPY.out.st.later (grow_below hx)).m.cell 10), ((HPY.out.st.later (grow_below hx)).m.cell 11), ((HPY.out.st.later (grow_below hx)).m.cell 12), ((HPY.out.st.later (grow_below hx)).m.cell 13)⟩ : _ ∧ _ ∧ _ ∧ _ ∧ _ ∧ _ ∧ _ ∧ _ ∧ _ ∧ _))
  refine wp_region_inv 6 (Grow) (by kernel_rfl) (by kernel_rfl) (Grow.refl) (fun _ _ _ => Grow.trans) ?_
  simp only [fill, dstOf, Act.put, List.take_succ_cons, List.take_zero, List.getElem?_toArray, List.getElem?_cons_zero, List.getElem?_cons_succ, Option.bind_some, List.setIfInBounds_toArray, List.set_cons_zero, List.set_cons_succ]
  refine Plan.det 1 rfl (Grow.refl) ?_
  apply Exists.intro
  refine ⟨fun vs x hR hF K hK => ?_, ?_⟩
  · clear hF
    go_simp
    exact hK _ _ (Grow.refl _) rfl
  refine Plan.det 2 rfl (Grow.refl) ?_
  apply Exists.intro
  refine ⟨fun vs x hR hF K hK => ?_, ?_⟩
  · have f0 := hF 0 _ _ rfl rfl; clear hF
    go_simp
    exact hK _ _ (Grow.refl _) rfl
  refine Plan.det 3 rfl (Grow.refl) ?_
  apply Exists.intro
  refine ⟨fun vs x hR hF K hK => ?_, ?_⟩
  · have f1 := hF 0 _ _ rfl rfl; clear hF
    go_simp
    exact hK _ _ (Grow.refl _) rfl
  refine Plan.det 4 rfl (Grow.refl) ?_
  apply Exists.intro
  refine ⟨fun vs x hR hF K hK => ?_, ?_⟩
  · have f2 := hF 0 _ _ rfl rfl; clear hF
    go_simp
    exact hK _ _ (Grow.refl _) rfl
  refine Plan.det 5 rfl (Grow.refl) ?_
  apply Exists.intro
  refine ⟨fun vs x hR hF K hK => ?_, ?_⟩
  · have f3 := hF 0 _ _ rfl rfl; have hc := HC.out x hR; clear hF
    go_simp
    exact hK _ _ (Grow.refl _) rfl
  refine Plan.det 6 rfl (Grow.refl) ?_
  apply Exists.intro
  refine ⟨fun vs x hR hF K hK => ?_, ?_⟩
  · have hc := HC.out x hR; clear hF
    go_simp
    exact hK _ _ (Grow.refl _) rfl
  refine Plan.nil (fun vs x hR hF => ?_)
  have f0 := hF 5 _ _ rfl; have f1 := hF 4 _ _ rfl; have f2 := hF 3 _ _ rfl; have f3 := hF 2 _ _ rfl; have f4 := hF 1 _ _ rfl; have f5 := hF 0 _ _ rfl
  clear hF
  simp only [f0, f1, f2, f3, f4, f5]
  clear f0 f1 f2 f3 f4 f5
  simp only [List.drop_succ_cons, List.drop_zero]
  have HPZ := hid (HPY.out.later (grow_below hR))
  have HBZ := hid (HBY.out.trans (But.of_below (grow_below hR)))
  clear HC hR
  go_wp2_with fail
  refine (HHA.out _ p xs ta tc i k sp K sa sc fid cap HPZ.out HO.out HIN.out HOK.out hik hks).mono ?_
  rintro e w' ⟨o, m, h1, rfl, h3, h4, h5⟩
  have HG : Hid (Good C (Ev C.str C.lines (.try (.mk p xs) i k) sp K (n + 1)) w (.returned (.bool o.isFound)) w') := ⟨o, m, h1, rfl, h3, HBZ.out.trans h4, h5⟩
  clear h1 h3 h4 h5
  generalize o.isFound = fo at *
  go_wp2_with fail
  go_ret
  exact HG.out
set_option maxRecDepth 100000 in
set_option maxHeartbeats 8000000 in
theorem try7 (n : Nat) (HA : ArmC C n 7 77 (fun t => #[t, .pointer (some ⟨C.MB, 0, none⟩)])) (w : World) (p : Pay) (xs : List Re) (ta : Option Addr) (tc i k : Nat) (sp : Spans) (K : Kont) (sa : Option Addr) (sc fid : Nat) (cap : Array Value) (h : Pre C (n + 1) (C.B - (n + 1) + 1) sp K (.slice sa sp.length sc) (.func (.func fid) #[] cap) w) (ho : p.op = 7) (hin : (Re.mk p xs).In C.w0 (p.cells (.slice ta xs.length tc))) (hok : (Re.mk p xs).ok C.N) (hik : i ≤ k) (hks : k ≤ C.s.size) :
    Calls Try.prog 89 #[.pointer (some ⟨C.M, 0, none⟩), .agg #[.int .i64 p.op, .int .u64 p.set.a, .int .u64 p.set.b, .int .u64 p.set.c, .int .u64 p.set.d, .int .i64 p.lo, .int .i64 p.hi, .int .i64 p.gr, .slice ta xs.length tc, .int .i64 i, .int .i64 k, .slice sa sp.length sc, .func (.func fid) #[] cap]] w (Good C (Ev C.str C.lines (.try (.mk p xs) i k) sp K (n + 1)) w) := by
  have HP := hid h
  have HHA := hid HA
  have HO := hid ho
  have HIN := hid hin
  have HOK := hid hok
  have hnB := h.st.nB
  have hbig := h.st.big
  have qc := (h.later ((Below.refl w.heap.size w).alloc (Nat.le_refl _) (.cells #[.int .i64 p.op, .int .u64 p.set.a, .int .u64 p.set.b, .int .u64 p.set.c, .int .u64 p.set.d, .int .i64 p.lo, .int .i64 p.hi, .int .i64 p.gr, .slice ta xs.length tc, .int .i64 i, .int .i64 k, .slice sa sp.length sc, .func (.func fid) #[] cap] 138))).st.c
  have HC := hid (fun (x : World) (hx : Grow (((w.alloc (.cells #[.int .i64 p.op, .int .u64 p.set.a, .int .u64 p.set.b, .int .u64 p.set.c, .int .u64 p.set.d, .int .i64 p.lo, .int .i64 p.hi, .int .i64 p.gr, .slice ta xs.length tc, .int .i64 i, .int .i64 k, .slice sa sp.length sc, .func (.func fid) #[] cap] 138)))).drew x) => (⟨(leafHC (cs := [.int .i64 p.op, .int .u64 p.set.a, .int .u64 p.set.b, .int .u64 p.set.c, .int .u64 p.set.d, .int .i64 p.lo, .int .i64 p.hi, .int .i64 p.gr, .slice ta xs.length tc, .int .i64 i, .int .i64 k, .slice sa sp.length sc, .func (.func fid) #[] cap]) h hx).2.c, (leafHC (cs := [.int .i64 p.op, .int .u64 p.set.a, .int .u64 p.set.b, .int .u64 p.set.c, .int .u64 p.set.d, .int .i64 p.lo, .int .i64 p.hi, .int .i64 p.gr, .slice ta xs.length tc, .int .i64 i, .int .i64 k, .slice sa sp.length sc, .func (.func fid) #[] cap]) h hx).1⟩ : _ ∧ _))
  have hmf : ∀ x : World, Grow (((w.alloc (.cells #[.int .i64 p.op, .int .u64 p.set.a, .int .u64 p.set.b, .int .u64 p.set.c, .int .u64 p.set.d, .int .i64 p.lo, .int .i64 p.hi, .int .i64 p.gr, .slice ta xs.length tc, .int .i64 i, .int .i64 k, .slice sa sp.length sc, .func (.func fid) #[] cap] 138)))).drew x → x.frozen? ⟨C.M, 2, none⟩ = false := fun x hx => (leafHC (cs := [.int .i64 p.op, .int .u64 p.set.a, .int .u64 p.set.b, .int .u64 p.set.c, .int .u64 p.set.d, .int .i64 p.lo, .int .i64 p.hi, .int .i64 p.gr, .slice ta xs.length tc, .int .i64 i, .int .i64 k, .slice sa sp.length sc, .func (.func fid) #[] cap]) h hx).2.m.free 2
  have HMF := hid hmf
  have d0 : (((C.B - (n + 1) : Nat) : Int) == (C.B : Int)) = false := by simp; omega
  have hw1 : IntKind.i64.wrap (((C.B - (n + 1) : Nat) : Int) + 1) = ((C.B - n : Nat) : Int) := by rw [IntKind.wrap_i64]; omega
  have hw2 : ((C.B - (n + 1) : Nat) : Int) + 1 = ((C.B - n : Nat) : Int) := by omega
  have HB := hid ((Below.refl w.heap.size w).alloc (Nat.le_refl _) (.cells #[.int .i64 p.op, .int .u64 p.set.a, .int .u64 p.set.b, .int .u64 p.set.c, .int .u64 p.set.d, .int .i64 p.lo, .int .i64 p.hi, .int .i64 p.gr, .slice ta xs.length tc, .int .i64 i, .int .i64 k, .slice sa sp.length sc, .func (.func fid) #[] cap] 138))
  have d1 : (p.op == 1) = false := by rw [HO.out]; decide
  have d2 : (p.op == 2) = false := by rw [HO.out]; decide
  have d3 : (p.op == 3) = false := by rw [HO.out]; decide
  have d4 : (p.op == 4) = false := by rw [HO.out]; decide
  have d5 : (p.op == 5) = false := by rw [HO.out]; decide
  have d6 : (p.op == 6) = false := by rw [HO.out]; decide
  have d7 : (p.op == 7) = true := by rw [HO.out]; decide
  clear h hmf hin hok HA ho
  go_enter Try.func89, Try.ntmps89
  go_wp2_with fail
  refine wp_region_inv 15 (Grow) (by kernel_rfl) (by kernel_rfl) (Grow.refl) (fun _ _ _ => Grow.trans) ?_
  simp only [fill, dstOf, Act.put, List.take_succ_cons, List.take_zero, List.getElem?_toArray, List.getElem?_cons_zero, List.getElem?_cons_succ, Option.bind_some, List.setIfInBounds_toArray, List.set_cons_zero, List.set_cons_succ]
  refine Plan.det 1 rfl (Grow.refl) ?_
  apply Exists.intro
  refine ⟨fun vs x hR hF K hK => ?_, ?_⟩
  · clear hF
    go_simp
    exact hK _ _ (Grow.refl _) rfl
  refine Plan.det 2 rfl (Grow.refl) ?_
  apply Exists.intro
  refine ⟨fun vs x hR hF K hK => ?_, ?_⟩
  · have f0 := hF 0 _ _ rfl rfl; clear hF
    go_simp
    exact hK _ _ (Grow.refl _) rfl
  refine Plan.det 3 rfl (Grow.refl) ?_
  apply Exists.intro
  refine ⟨fun vs x hR hF K hK => ?_, ?_⟩
  · have f1 := hF 0 _ _ rfl rfl; clear hF
    go_simp
    exact hK _ _ (Grow.refl _) rfl
  refine Plan.det 4 rfl (Grow.refl) ?_
  apply Exists.intro
  refine ⟨fun vs x hR hF K hK => ?_, ?_⟩
  · have f2 := hF 0 _ _ rfl rfl; have hc := HC.out x hR; clear hF
    go_simp
    exact hK _ _ (Grow.refl _) rfl
  refine Plan.det 5 rfl (Grow.refl) ?_
  apply Exists.intro
  refine ⟨fun vs x hR hF K hK => ?_, ?_⟩
  · have f3 := hF 0 _ _ rfl rfl; clear hF
    go_simp
    exact hK _ _ (Grow.refl _) rfl
  refine Plan.det 6 rfl (Grow.refl) ?_
  apply Exists.intro
  refine ⟨fun vs x hR hF K hK => ?_, ?_⟩
  · have f4 := hF 0 _ _ rfl rfl; clear hF
    go_simp
    exact hK _ _ (Grow.refl _) rfl
  refine Plan.det 7 rfl (Grow.refl) ?_
  apply Exists.intro
  refine ⟨fun vs x hR hF K hK => ?_, ?_⟩
  · have f4 := hF 1 _ _ rfl rfl; have f5 := hF 0 _ _ rfl rfl; clear hF
    go_simp
    exact hK _ _ (Grow.refl _) rfl
  refine Plan.det 8 rfl (Grow.refl) ?_
  apply Exists.intro
  refine ⟨fun vs x hR hF K hK => ?_, ?_⟩
  · have f4 := hF 2 _ _ rfl rfl; have f6 := hF 0 _ _ rfl rfl; clear hF
    go_simp
    exact hK _ _ (Grow.refl _) rfl
  refine Plan.det 9 rfl (Grow.refl) ?_
  apply Exists.intro
  refine ⟨fun vs x hR hF K hK => ?_, ?_⟩
  · have f4 := hF 3 _ _ rfl rfl; have f7 := hF 0 _ _ rfl rfl; have hc := HC.out x hR; clear hF
    go_simp
    exact hK _ _ (Grow.refl _) rfl
  refine Plan.det 10 rfl (Grow.refl) ?_
  apply Exists.intro
  refine ⟨fun vs x hR hF K hK => ?_, ?_⟩
  · have f4 := hF 4 _ _ rfl rfl; clear hF
    go_simp
    exact hK _ _ (Grow.refl _) rfl
  refine Plan.det 11 rfl (Grow.refl) ?_
  apply Exists.intro
  refine ⟨fun vs x hR hF K hK => ?_, ?_⟩
  · have f4 := hF 5 _ _ rfl rfl; have f9 := hF 0 _ _ rfl rfl; clear hF
    go_simp
    exact hK _ _ (Grow.refl _) rfl
  refine Plan.det 12 rfl (Grow.refl) ?_
  apply Exists.intro
  refine ⟨fun vs x hR hF K hK => ?_, ?_⟩
  · have f4 := hF 6 _ _ rfl rfl; have f10 := hF 0 _ _ rfl rfl; clear hF
    go_simp
    exact hK _ _ (Grow.refl _) rfl
  refine Plan.det 13 rfl (Grow.refl) ?_
  apply Exists.intro
  refine ⟨fun vs x hR hF K hK => ?_, ?_⟩
  · have f4 := hF 7 _ _ rfl rfl; have f11 := hF 0 _ _ rfl rfl; have hc := HC.out x hR; clear hF
    go_simp
    exact hK _ _ (Grow.refl _) rfl
  refine Plan.det 14 rfl (Grow.refl) ?_
  apply Exists.intro
  refine ⟨fun vs x hR hF K hK => ?_, ?_⟩
  · have f4 := hF 8 _ _ rfl rfl; have f8 := hF 4 _ _ rfl rfl; have f12 := hF 0 _ _ rfl rfl; clear hF
    go_simp
    exact hK _ _ (Grow.refl _) rfl
  refine Plan.det 15 rfl (Grow.refl) ?_
  apply Exists.intro
  refine ⟨fun vs x hR hF K hK => ?_, ?_⟩
  · have f4 := hF 9 _ _ rfl rfl; have f13 := hF 0 _ _ rfl rfl; clear hF
    go_simp
    exact hK _ _ (Grow.refl _) rfl
  refine Plan.nil (fun vs x hR hF => ?_)
  have f0 := hF 14 _ _ rfl; have f1 := hF 13 _ _ rfl; have f2 := hF 12 _ _ rfl; have f3 := hF 11 _ _ rfl; have f4 := hF 10 _ _ rfl; have f5 := hF 9 _ _ rfl; have f6 := hF 8 _ _ rfl; have f7 := hF 7 _ _ rfl; have f8 := hF 6 _ _ rfl; have f9 := hF 5 _ _ rfl; have f10 := hF 4 _ _ rfl; have f11 := hF 3 _ _ rfl; have f12 := hF 2 _ _ rfl; have f13 := hF 1 _ _ rfl; have f14 := hF 0 _ _ rfl
  clear hF
  simp only [f0, f1, f2, f3, f4, f5, f6, f7, f8, f9, f10, f11, f12, f13, f14]
  clear f0 f1 f2 f3 f4 f5 f6 f7 f8 f9 f10 f11 f12 f13 f14
  simp only [List.drop_succ_cons, List.drop_zero]
  have hbx : Below w.heap.size w x := below_grow HB.out (by simp) hR
  have HBX := hid hbx
  have hfz := HMF.out x hR
  have HR := hid (HC.out x hR).2
  have HPX := hid (HP.out.later hbx)
  clear HC hR hbx qc
  have qc := HPX.out.st.c
  have q := HR.out.c13
  go_wp2_with fail
  obtain ⟨hst, hbut⟩ := HPX.out.st.step
  have HRY := hid (HR.out.but hbut (HPX.out.st.nS HR.out (by decide) (by decide)))
  have HPY : Hid (Pre C n (C.B - n) sp K (.slice sa sp.length sc) (.func (.func fid) #[] cap) (x.setCell ⟨C.M, 2, none⟩ (.int .i64 ((C.B - n : Nat) : Int)))) :=
    ⟨hst, HPX.out.span.but hbut, HPX.out.ok, HPX.out.k.but HPX.out.st hbut, HPX.out.kok.mono (by omega)⟩
  have HBY := hid ((But.of_below HBX.out).trans hbut)
  clear HPX HR HBX hfz qc q hst hbut
  generalize x.setCell ⟨C.M, 2, none⟩ (.int .i64 ((C.B - n : Nat) : Int)) = y at *
  have HC := hid (fun (x : World) (hx : Grow y.drew x) => (⟨(HRY.out.grow hx).c13, ((HPY.out.st.later (grow_below hx)).m.cell 5), ((HPY.out.st.later (grow_below hx)).m.cell 6), ((HPY.out.st.later (grow_below hx)).m.cell 7), ((HPY.out.st.later (grow_below hx)).m.cell 8), ((HPY.out.st.later (grow_below hx)).m.cell 9), ((HPY.out.st.later (grow_below hx)).m.cell 10), ((HPY.out.st.later (grow_below hx)).m.cell 11), ((HPY.out.st.later (grow_below hx)).m.cell 12), ((HPY.out.st.later (grow_below hx)).m.cell 13)⟩ : _ ∧ _ ∧ _ ∧ _ ∧ _ ∧ _ ∧ _ ∧ _ ∧ _ ∧ _))
  refine wp_region_inv 6 (Grow) (by kernel_rfl) (by kernel_rfl) (Grow.refl) (fun _ _ _ => Grow.trans) ?_
  simp only [fill, dstOf, Act.put, List.take_succ_cons, List.take_zero, List.getElem?_toArray, List.getElem?_cons_zero, List.getElem?_cons_succ, Option.bind_some, List.setIfInBounds_toArray, List.set_cons_zero, List.set_cons_succ]
  refine Plan.det 1 rfl (Grow.refl) ?_
  apply Exists.intro
  refine ⟨fun vs x hR hF K hK => ?_, ?_⟩
  · clear hF
    go_simp
    exact hK _ _ (Grow.refl _) rfl
  refine Plan.det 2 rfl (Grow.refl) ?_
  apply Exists.intro
  refine ⟨fun vs x hR hF K hK => ?_, ?_⟩
  · have f0 := hF 0 _ _ rfl rfl; clear hF
    go_simp
    exact hK _ _ (Grow.refl _) rfl
  refine Plan.det 3 rfl (Grow.refl) ?_
  apply Exists.intro
  refine ⟨fun vs x hR hF K hK => ?_, ?_⟩
  · have f1 := hF 0 _ _ rfl rfl; clear hF
    go_simp
    exact hK _ _ (Grow.refl _) rfl
  refine Plan.det 4 rfl (Grow.refl) ?_
  apply Exists.intro
  refine ⟨fun vs x hR hF K hK => ?_, ?_⟩
  · have f2 := hF 0 _ _ rfl rfl; clear hF
    go_simp
    exact hK _ _ (Grow.refl _) rfl
  refine Plan.det 5 rfl (Grow.refl) ?_
  apply Exists.intro
  refine ⟨fun vs x hR hF K hK => ?_, ?_⟩
  · have f3 := hF 0 _ _ rfl rfl; have hc := HC.out x hR; clear hF
    go_simp
    exact hK _ _ (Grow.refl _) rfl
  refine Plan.det 6 rfl (Grow.refl) ?_
  apply Exists.intro
  refine ⟨fun vs x hR hF K hK => ?_, ?_⟩
  · have hc := HC.out x hR; clear hF
    go_simp
    exact hK _ _ (Grow.refl _) rfl
  refine Plan.nil (fun vs x hR hF => ?_)
  have f0 := hF 5 _ _ rfl; have f1 := hF 4 _ _ rfl; have f2 := hF 3 _ _ rfl; have f3 := hF 2 _ _ rfl; have f4 := hF 1 _ _ rfl; have f5 := hF 0 _ _ rfl
  clear hF
  simp only [f0, f1, f2, f3, f4, f5]
  clear f0 f1 f2 f3 f4 f5
  simp only [List.drop_succ_cons, List.drop_zero]
  have HPZ := hid (HPY.out.later (grow_below hR))
  have HBZ := hid (HBY.out.trans (But.of_below (grow_below hR)))
  clear HC hR
  go_wp2_with fail
  refine (HHA.out _ p xs ta tc i k sp K sa sc fid cap HPZ.out HO.out HIN.out HOK.out hik hks).mono ?_
  rintro e w' ⟨o, m, h1, rfl, h3, h4, h5⟩
  have HG : Hid (Good C (Ev C.str C.lines (.try (.mk p xs) i k) sp K (n + 1)) w (.returned (.bool o.isFound)) w') := ⟨o, m, h1, rfl, h3, HBZ.out.trans h4, h5⟩
  clear h1 h3 h4 h5
  generalize o.isFound = fo at *
  go_wp2_with fail
  go_ret
  exact HG.out
set_option maxRecDepth 100000 in
set_option maxHeartbeats 8000000 in
theorem try8 (n : Nat) (HA : ArmC C n 8 78 (fun t => #[t, .pointer (some ⟨C.MB, 0, none⟩)])) (w : World) (p : Pay) (xs : List Re) (ta : Option Addr) (tc i k : Nat) (sp : Spans) (K : Kont) (sa : Option Addr) (sc fid : Nat) (cap : Array Value) (h : Pre C (n + 1) (C.B - (n + 1) + 1) sp K (.slice sa sp.length sc) (.func (.func fid) #[] cap) w) (ho : p.op = 8) (hin : (Re.mk p xs).In C.w0 (p.cells (.slice ta xs.length tc))) (hok : (Re.mk p xs).ok C.N) (hik : i ≤ k) (hks : k ≤ C.s.size) :
    Calls Try.prog 89 #[.pointer (some ⟨C.M, 0, none⟩), .agg #[.int .i64 p.op, .int .u64 p.set.a, .int .u64 p.set.b, .int .u64 p.set.c, .int .u64 p.set.d, .int .i64 p.lo, .int .i64 p.hi, .int .i64 p.gr, .slice ta xs.length tc, .int .i64 i, .int .i64 k, .slice sa sp.length sc, .func (.func fid) #[] cap]] w (Good C (Ev C.str C.lines (.try (.mk p xs) i k) sp K (n + 1)) w) := by
  have HP := hid h
  have HHA := hid HA
  have HO := hid ho
  have HIN := hid hin
  have HOK := hid hok
  have hnB := h.st.nB
  have hbig := h.st.big
  have qc := (h.later ((Below.refl w.heap.size w).alloc (Nat.le_refl _) (.cells #[.int .i64 p.op, .int .u64 p.set.a, .int .u64 p.set.b, .int .u64 p.set.c, .int .u64 p.set.d, .int .i64 p.lo, .int .i64 p.hi, .int .i64 p.gr, .slice ta xs.length tc, .int .i64 i, .int .i64 k, .slice sa sp.length sc, .func (.func fid) #[] cap] 138))).st.c
  have HC := hid (fun (x : World) (hx : Grow (((w.alloc (.cells #[.int .i64 p.op, .int .u64 p.set.a, .int .u64 p.set.b, .int .u64 p.set.c, .int .u64 p.set.d, .int .i64 p.lo, .int .i64 p.hi, .int .i64 p.gr, .slice ta xs.length tc, .int .i64 i, .int .i64 k, .slice sa sp.length sc, .func (.func fid) #[] cap] 138)))).drew x) => (⟨(leafHC (cs := [.int .i64 p.op, .int .u64 p.set.a, .int .u64 p.set.b, .int .u64 p.set.c, .int .u64 p.set.d, .int .i64 p.lo, .int .i64 p.hi, .int .i64 p.gr, .slice ta xs.length tc, .int .i64 i, .int .i64 k, .slice sa sp.length sc, .func (.func fid) #[] cap]) h hx).2.c, (leafHC (cs := [.int .i64 p.op, .int .u64 p.set.a, .int .u64 p.set.b, .int .u64 p.set.c, .int .u64 p.set.d, .int .i64 p.lo, .int .i64 p.hi, .int .i64 p.gr, .slice ta xs.length tc, .int .i64 i, .int .i64 k, .slice sa sp.length sc, .func (.func fid) #[] cap]) h hx).1⟩ : _ ∧ _))
  have hmf : ∀ x : World, Grow (((w.alloc (.cells #[.int .i64 p.op, .int .u64 p.set.a, .int .u64 p.set.b, .int .u64 p.set.c, .int .u64 p.set.d, .int .i64 p.lo, .int .i64 p.hi, .int .i64 p.gr, .slice ta xs.length tc, .int .i64 i, .int .i64 k, .slice sa sp.length sc, .func (.func fid) #[] cap] 138)))).drew x → x.frozen? ⟨C.M, 2, none⟩ = false := fun x hx => (leafHC (cs := [.int .i64 p.op, .int .u64 p.set.a, .int .u64 p.set.b, .int .u64 p.set.c, .int .u64 p.set.d, .int .i64 p.lo, .int .i64 p.hi, .int .i64 p.gr, .slice ta xs.length tc, .int .i64 i, .int .i64 k, .slice sa sp.length sc, .func (.func fid) #[] cap]) h hx).2.m.free 2
  have HMF := hid hmf
  have d0 : (((C.B - (n + 1) : Nat) : Int) == (C.B : Int)) = false := by simp; omega
  have hw1 : IntKind.i64.wrap (((C.B - (n + 1) : Nat) : Int) + 1) = ((C.B - n : Nat) : Int) := by rw [IntKind.wrap_i64]; omega
  have hw2 : ((C.B - (n + 1) : Nat) : Int) + 1 = ((C.B - n : Nat) : Int) := by omega
  have HB := hid ((Below.refl w.heap.size w).alloc (Nat.le_refl _) (.cells #[.int .i64 p.op, .int .u64 p.set.a, .int .u64 p.set.b, .int .u64 p.set.c, .int .u64 p.set.d, .int .i64 p.lo, .int .i64 p.hi, .int .i64 p.gr, .slice ta xs.length tc, .int .i64 i, .int .i64 k, .slice sa sp.length sc, .func (.func fid) #[] cap] 138))
  have d1 : (p.op == 1) = false := by rw [HO.out]; decide
  have d2 : (p.op == 2) = false := by rw [HO.out]; decide
  have d3 : (p.op == 3) = false := by rw [HO.out]; decide
  have d4 : (p.op == 4) = false := by rw [HO.out]; decide
  have d5 : (p.op == 5) = false := by rw [HO.out]; decide
  have d6 : (p.op == 6) = false := by rw [HO.out]; decide
  have d7 : (p.op == 7) = false := by rw [HO.out]; decide
  have d8 : (p.op == 8) = true := by rw [HO.out]; decide
  clear h hmf hin hok HA ho
  go_enter Try.func89, Try.ntmps89
  go_wp2_with fail
  refine wp_region_inv 15 (Grow) (by kernel_rfl) (by kernel_rfl) (Grow.refl) (fun _ _ _ => Grow.trans) ?_
  simp only [fill, dstOf, Act.put, List.take_succ_cons, List.take_zero, List.getElem?_toArray, List.getElem?_cons_zero, List.getElem?_cons_succ, Option.bind_some, List.setIfInBounds_toArray, List.set_cons_zero, List.set_cons_succ]
  refine Plan.det 1 rfl (Grow.refl) ?_
  apply Exists.intro
  refine ⟨fun vs x hR hF K hK => ?_, ?_⟩
  · clear hF
    go_simp
    exact hK _ _ (Grow.refl _) rfl
  refine Plan.det 2 rfl (Grow.refl) ?_
  apply Exists.intro
  refine ⟨fun vs x hR hF K hK => ?_, ?_⟩
  · have f0 := hF 0 _ _ rfl rfl; clear hF
    go_simp
    exact hK _ _ (Grow.refl _) rfl
  refine Plan.det 3 rfl (Grow.refl) ?_
  apply Exists.intro
  refine ⟨fun vs x hR hF K hK => ?_, ?_⟩
  · have f1 := hF 0 _ _ rfl rfl; clear hF
    go_simp
    exact hK _ _ (Grow.refl _) rfl
  refine Plan.det 4 rfl (Grow.refl) ?_
  apply Exists.intro
  refine ⟨fun vs x hR hF K hK => ?_, ?_⟩
  · have f2 := hF 0 _ _ rfl rfl; have hc := HC.out x hR; clear hF
    go_simp
    exact hK _ _ (Grow.refl _) rfl
  refine Plan.det 5 rfl (Grow.refl) ?_
  apply Exists.intro
  refine ⟨fun vs x hR hF K hK => ?_, ?_⟩
  · have f3 := hF 0 _ _ rfl rfl; clear hF
    go_simp
    exact hK _ _ (Grow.refl _) rfl
  refine Plan.det 6 rfl (Grow.refl) ?_
  apply Exists.intro
  refine ⟨fun vs x hR hF K hK => ?_, ?_⟩
  · have f4 := hF 0 _ _ rfl rfl; clear hF
    go_simp
    exact hK _ _ (Grow.refl _) rfl
  refine Plan.det 7 rfl (Grow.refl) ?_
  apply Exists.intro
  refine ⟨fun vs x hR hF K hK => ?_, ?_⟩
  · have f4 := hF 1 _ _ rfl rfl; have f5 := hF 0 _ _ rfl rfl; clear hF
    go_simp
    exact hK _ _ (Grow.refl _) rfl
  refine Plan.det 8 rfl (Grow.refl) ?_
  apply Exists.intro
  refine ⟨fun vs x hR hF K hK => ?_, ?_⟩
  · have f4 := hF 2 _ _ rfl rfl; have f6 := hF 0 _ _ rfl rfl; clear hF
    go_simp
    exact hK _ _ (Grow.refl _) rfl
  refine Plan.det 9 rfl (Grow.refl) ?_
  apply Exists.intro
  refine ⟨fun vs x hR hF K hK => ?_, ?_⟩
  · have f4 := hF 3 _ _ rfl rfl; have f7 := hF 0 _ _ rfl rfl; have hc := HC.out x hR; clear hF
    go_simp
    exact hK _ _ (Grow.refl _) rfl
  refine Plan.det 10 rfl (Grow.refl) ?_
  apply Exists.intro
  refine ⟨fun vs x hR hF K hK => ?_, ?_⟩
  · have f4 := hF 4 _ _ rfl rfl; clear hF
    go_simp
    exact hK _ _ (Grow.refl _) rfl
  refine Plan.det 11 rfl (Grow.refl) ?_
  apply Exists.intro
  refine ⟨fun vs x hR hF K hK => ?_, ?_⟩
  · have f4 := hF 5 _ _ rfl rfl; have f9 := hF 0 _ _ rfl rfl; clear hF
    go_simp
    exact hK _ _ (Grow.refl _) rfl
  refine Plan.det 12 rfl (Grow.refl) ?_
  apply Exists.intro
  refine ⟨fun vs x hR hF K hK => ?_, ?_⟩
  · have f4 := hF 6 _ _ rfl rfl; have f10 := hF 0 _ _ rfl rfl; clear hF
    go_simp
    exact hK _ _ (Grow.refl _) rfl
  refine Plan.det 13 rfl (Grow.refl) ?_
  apply Exists.intro
  refine ⟨fun vs x hR hF K hK => ?_, ?_⟩
  · have f4 := hF 7 _ _ rfl rfl; have f11 := hF 0 _ _ rfl rfl; have hc := HC.out x hR; clear hF
    go_simp
    exact hK _ _ (Grow.refl _) rfl
  refine Plan.det 14 rfl (Grow.refl) ?_
  apply Exists.intro
  refine ⟨fun vs x hR hF K hK => ?_, ?_⟩
  · have f4 := hF 8 _ _ rfl rfl; have f8 := hF 4 _ _ rfl rfl; have f12 := hF 0 _ _ rfl rfl; clear hF
    go_simp
    exact hK _ _ (Grow.refl _) rfl
  refine Plan.det 15 rfl (Grow.refl) ?_
  apply Exists.intro
  refine ⟨fun vs x hR hF K hK => ?_, ?_⟩
  · have f4 := hF 9 _ _ rfl rfl; have f13 := hF 0 _ _ rfl rfl; clear hF
    go_simp
    exact hK _ _ (Grow.refl _) rfl
  refine Plan.nil (fun vs x hR hF => ?_)
  have f0 := hF 14 _ _ rfl; have f1 := hF 13 _ _ rfl; have f2 := hF 12 _ _ rfl; have f3 := hF 11 _ _ rfl; have f4 := hF 10 _ _ rfl; have f5 := hF 9 _ _ rfl; have f6 := hF 8 _ _ rfl; have f7 := hF 7 _ _ rfl; have f8 := hF 6 _ _ rfl; have f9 := hF 5 _ _ rfl; have f10 := hF 4 _ _ rfl; have f11 := hF 3 _ _ rfl; have f12 := hF 2 _ _ rfl; have f13 := hF 1 _ _ rfl; have f14 := hF 0 _ _ rfl
  clear hF
  simp only [f0, f1, f2, f3, f4, f5, f6, f7, f8, f9, f10, f11, f12, f13, f14]
  clear f0 f1 f2 f3 f4 f5 f6 f7 f8 f9 f10 f11 f12 f13 f14
  simp only [List.drop_succ_cons, List.drop_zero]
  have hbx : Below w.heap.size w x := below_grow HB.out (by simp) hR
  have HBX := hid hbx
  have hfz := HMF.out x hR
  have HR := hid (HC.out x hR).2
  have HPX := hid (HP.out.later hbx)
  clear HC hR hbx qc
  have qc := HPX.out.st.c
  have q := HR.out.c13
  go_wp2_with fail
  obtain ⟨hst, hbut⟩ := HPX.out.st.step
  have HRY := hid (HR.out.but hbut (HPX.out.st.nS HR.out (by decide) (by decide)))
  have HPY : Hid (Pre C n (C.B - n) sp K (.slice sa sp.length sc) (.func (.func fid) #[] cap) (x.setCell ⟨C.M, 2, none⟩ (.int .i64 ((C.B - n : Nat) : Int)))) :=
    ⟨hst, HPX.out.span.but hbut, HPX.out.ok, HPX.out.k.but HPX.out.st hbut, HPX.out.kok.mono (by omega)⟩
  have HBY := hid ((But.of_below HBX.out).trans hbut)
  clear HPX HR HBX hfz qc q hst hbut
  generalize x.setCell ⟨C.M, 2, none⟩ (.int .i64 ((C.B - n : Nat) : Int)) = y at *
  have HC := hid (fun (x : World) (hx : Grow y.drew x) => (⟨(HRY.out.grow hx).c13, ((HPY.out.st.later (grow_below hx)).m.cell 5), ((HPY.out.st.later (grow_below hx)).m.cell 6), ((HPY.out.st.later (grow_below hx)).m.cell 7), ((HPY.out.st.later (grow_below hx)).m.cell 8), ((HPY.out.st.later (grow_below hx)).m.cell 9), ((HPY.out.st.later (grow_below hx)).m.cell 10), ((HPY.out.st.later (grow_below hx)).m.cell 11), ((HPY.out.st.later (grow_below hx)).m.cell 12), ((HPY.out.st.later (grow_below hx)).m.cell 13)⟩ : _ ∧ _ ∧ _ ∧ _ ∧ _ ∧ _ ∧ _ ∧ _ ∧ _ ∧ _))
  refine wp_region_inv 6 (Grow) (by kernel_rfl) (by kernel_rfl) (Grow.refl) (fun _ _ _ => Grow.trans) ?_
  simp only [fill, dstOf, Act.put, List.take_succ_cons, List.take_zero, List.getElem?_toArray, List.getElem?_cons_zero, List.getElem?_cons_succ, Option.bind_some, List.setIfInBounds_toArray, List.set_cons_zero, List.set_cons_succ]
  refine Plan.det 1 rfl (Grow.refl) ?_
  apply Exists.intro
  refine ⟨fun vs x hR hF K hK => ?_, ?_⟩
  · clear hF
    go_simp
    exact hK _ _ (Grow.refl _) rfl
  refine Plan.det 2 rfl (Grow.refl) ?_
  apply Exists.intro
  refine ⟨fun vs x hR hF K hK => ?_, ?_⟩
  · have f0 := hF 0 _ _ rfl rfl; clear hF
    go_simp
    exact hK _ _ (Grow.refl _) rfl
  refine Plan.det 3 rfl (Grow.refl) ?_
  apply Exists.intro
  refine ⟨fun vs x hR hF K hK => ?_, ?_⟩
  · have f1 := hF 0 _ _ rfl rfl; clear hF
    go_simp
    exact hK _ _ (Grow.refl _) rfl
  refine Plan.det 4 rfl (Grow.refl) ?_
  apply Exists.intro
  refine ⟨fun vs x hR hF K hK => ?_, ?_⟩
  · have f2 := hF 0 _ _ rfl rfl; clear hF
    go_simp
    exact hK _ _ (Grow.refl _) rfl
  refine Plan.det 5 rfl (Grow.refl) ?_
  apply Exists.intro
  refine ⟨fun vs x hR hF K hK => ?_, ?_⟩
  · have f3 := hF 0 _ _ rfl rfl; have hc := HC.out x hR; clear hF
    go_simp
    exact hK _ _ (Grow.refl _) rfl
  refine Plan.det 6 rfl (Grow.refl) ?_
  apply Exists.intro
  refine ⟨fun vs x hR hF K hK => ?_, ?_⟩
  · have hc := HC.out x hR; clear hF
    go_simp
    exact hK _ _ (Grow.refl _) rfl
  refine Plan.nil (fun vs x hR hF => ?_)
  have f0 := hF 5 _ _ rfl; have f1 := hF 4 _ _ rfl; have f2 := hF 3 _ _ rfl; have f3 := hF 2 _ _ rfl; have f4 := hF 1 _ _ rfl; have f5 := hF 0 _ _ rfl
  clear hF
  simp only [f0, f1, f2, f3, f4, f5]
  clear f0 f1 f2 f3 f4 f5
  simp only [List.drop_succ_cons, List.drop_zero]
  have HPZ := hid (HPY.out.later (grow_below hR))
  have HBZ := hid (HBY.out.trans (But.of_below (grow_below hR)))
  clear HC hR
  go_wp2_with fail
  refine (HHA.out _ p xs ta tc i k sp K sa sc fid cap HPZ.out HO.out HIN.out HOK.out hik hks).mono ?_
  rintro e w' ⟨o, m, h1, rfl, h3, h4, h5⟩
  have HG : Hid (Good C (Ev C.str C.lines (.try (.mk p xs) i k) sp K (n + 1)) w (.returned (.bool o.isFound)) w') := ⟨o, m, h1, rfl, h3, HBZ.out.trans h4, h5⟩
  clear h1 h3 h4 h5
  generalize o.isFound = fo at *
  go_wp2_with fail
  go_ret
  exact HG.out
set_option maxRecDepth 100000 in
set_option maxHeartbeats 8000000 in
theorem try9 (n : Nat) (HA : ArmC C n 9 86 (fun t => #[.pointer (some ⟨C.M, 0, none⟩), t])) (w : World) (p : Pay) (xs : List Re) (ta : Option Addr) (tc i k : Nat) (sp : Spans) (K : Kont) (sa : Option Addr) (sc fid : Nat) (cap : Array Value) (h : Pre C (n + 1) (C.B - (n + 1) + 1) sp K (.slice sa sp.length sc) (.func (.func fid) #[] cap) w) (ho : p.op = 9) (hin : (Re.mk p xs).In C.w0 (p.cells (.slice ta xs.length tc))) (hok : (Re.mk p xs).ok C.N) (hik : i ≤ k) (hks : k ≤ C.s.size) :
    Calls Try.prog 89 #[.pointer (some ⟨C.M, 0, none⟩), .agg #[.int .i64 p.op, .int .u64 p.set.a, .int .u64 p.set.b, .int .u64 p.set.c, .int .u64 p.set.d, .int .i64 p.lo, .int .i64 p.hi, .int .i64 p.gr, .slice ta xs.length tc, .int .i64 i, .int .i64 k, .slice sa sp.length sc, .func (.func fid) #[] cap]] w (Good C (Ev C.str C.lines (.try (.mk p xs) i k) sp K (n + 1)) w) := by
  have HP := hid h
  have HHA := hid HA
  have HO := hid ho
  have HIN := hid hin
  have HOK := hid hok
  have hnB := h.st.nB
  have hbig := h.st.big
  have qc := (h.later ((Below.refl w.heap.size w).alloc (Nat.le_refl _) (.cells #[.int .i64 p.op, .int .u64 p.set.a, .int .u64 p.set.b, .int .u64 p.set.c, .int .u64 p.set.d, .int .i64 p.lo, .int .i64 p.hi, .int .i64 p.gr, .slice ta xs.length tc, .int .i64 i, .int .i64 k, .slice sa sp.length sc, .func (.func fid) #[] cap] 138))).st.c
  have HC := hid (fun (x : World) (hx : Grow (((w.alloc (.cells #[.int .i64 p.op, .int .u64 p.set.a, .int .u64 p.set.b, .int .u64 p.set.c, .int .u64 p.set.d, .int .i64 p.lo, .int .i64 p.hi, .int .i64 p.gr, .slice ta xs.length tc, .int .i64 i, .int .i64 k, .slice sa sp.length sc, .func (.func fid) #[] cap] 138)))).drew x) => (⟨(leafHC (cs := [.int .i64 p.op, .int .u64 p.set.a, .int .u64 p.set.b, .int .u64 p.set.c, .int .u64 p.set.d, .int .i64 p.lo, .int .i64 p.hi, .int .i64 p.gr, .slice ta xs.length tc, .int .i64 i, .int .i64 k, .slice sa sp.length sc, .func (.func fid) #[] cap]) h hx).2.c, (leafHC (cs := [.int .i64 p.op, .int .u64 p.set.a, .int .u64 p.set.b, .int .u64 p.set.c, .int .u64 p.set.d, .int .i64 p.lo, .int .i64 p.hi, .int .i64 p.gr, .slice ta xs.length tc, .int .i64 i, .int .i64 k, .slice sa sp.length sc, .func (.func fid) #[] cap]) h hx).1⟩ : _ ∧ _))
  have hmf : ∀ x : World, Grow (((w.alloc (.cells #[.int .i64 p.op, .int .u64 p.set.a, .int .u64 p.set.b, .int .u64 p.set.c, .int .u64 p.set.d, .int .i64 p.lo, .int .i64 p.hi, .int .i64 p.gr, .slice ta xs.length tc, .int .i64 i, .int .i64 k, .slice sa sp.length sc, .func (.func fid) #[] cap] 138)))).drew x → x.frozen? ⟨C.M, 2, none⟩ = false := fun x hx => (leafHC (cs := [.int .i64 p.op, .int .u64 p.set.a, .int .u64 p.set.b, .int .u64 p.set.c, .int .u64 p.set.d, .int .i64 p.lo, .int .i64 p.hi, .int .i64 p.gr, .slice ta xs.length tc, .int .i64 i, .int .i64 k, .slice sa sp.length sc, .func (.func fid) #[] cap]) h hx).2.m.free 2
  have HMF := hid hmf
  have d0 : (((C.B - (n + 1) : Nat) : Int) == (C.B : Int)) = false := by simp; omega
  have hw1 : IntKind.i64.wrap (((C.B - (n + 1) : Nat) : Int) + 1) = ((C.B - n : Nat) : Int) := by rw [IntKind.wrap_i64]; omega
  have hw2 : ((C.B - (n + 1) : Nat) : Int) + 1 = ((C.B - n : Nat) : Int) := by omega
  have HB := hid ((Below.refl w.heap.size w).alloc (Nat.le_refl _) (.cells #[.int .i64 p.op, .int .u64 p.set.a, .int .u64 p.set.b, .int .u64 p.set.c, .int .u64 p.set.d, .int .i64 p.lo, .int .i64 p.hi, .int .i64 p.gr, .slice ta xs.length tc, .int .i64 i, .int .i64 k, .slice sa sp.length sc, .func (.func fid) #[] cap] 138))
  have d1 : (p.op == 1) = false := by rw [HO.out]; decide
  have d2 : (p.op == 2) = false := by rw [HO.out]; decide
  have d3 : (p.op == 3) = false := by rw [HO.out]; decide
  have d4 : (p.op == 4) = false := by rw [HO.out]; decide
  have d5 : (p.op == 5) = false := by rw [HO.out]; decide
  have d6 : (p.op == 6) = false := by rw [HO.out]; decide
  have d7 : (p.op == 7) = false := by rw [HO.out]; decide
  have d8 : (p.op == 8) = false := by rw [HO.out]; decide
  clear h hmf hin hok HA ho
  go_enter Try.func89, Try.ntmps89
  go_wp2_with fail
  refine wp_region_inv 15 (Grow) (by kernel_rfl) (by kernel_rfl) (Grow.refl) (fun _ _ _ => Grow.trans) ?_
  simp only [fill, dstOf, Act.put, List.take_succ_cons, List.take_zero, List.getElem?_toArray, List.getElem?_cons_zero, List.getElem?_cons_succ, Option.bind_some, List.setIfInBounds_toArray, List.set_cons_zero, List.set_cons_succ]
  refine Plan.det 1 rfl (Grow.refl) ?_
  apply Exists.intro
  refine ⟨fun vs x hR hF K hK => ?_, ?_⟩
  · clear hF
    go_simp
    exact hK _ _ (Grow.refl _) rfl
  refine Plan.det 2 rfl (Grow.refl) ?_
  apply Exists.intro
  refine ⟨fun vs x hR hF K hK => ?_, ?_⟩
  · have f0 := hF 0 _ _ rfl rfl; clear hF
    go_simp
    exact hK _ _ (Grow.refl _) rfl
  refine Plan.det 3 rfl (Grow.refl) ?_
  apply Exists.intro
  refine ⟨fun vs x hR hF K hK => ?_, ?_⟩
  · have f1 := hF 0 _ _ rfl rfl; clear hF
    go_simp
    exact hK _ _ (Grow.refl _) rfl
  refine Plan.det 4 rfl (Grow.refl) ?_
  apply Exists.intro
  refine ⟨fun vs x hR hF K hK => ?_, ?_⟩
  · have f2 := hF 0 _ _ rfl rfl; have hc := HC.out x hR; clear hF
    go_simp
    exact hK _ _ (Grow.refl _) rfl
  refine Plan.det 5 rfl (Grow.refl) ?_
  apply Exists.intro
  refine ⟨fun vs x hR hF K hK => ?_, ?_⟩
  · have f3 := hF 0 _ _ rfl rfl; clear hF
    go_simp
    exact hK _ _ (Grow.refl _) rfl
  refine Plan.det 6 rfl (Grow.refl) ?_
  apply Exists.intro
  refine ⟨fun vs x hR hF K hK => ?_, ?_⟩
  · have f4 := hF 0 _ _ rfl rfl; clear hF
    go_simp
    exact hK _ _ (Grow.refl _) rfl
  refine Plan.det 7 rfl (Grow.refl) ?_
  apply Exists.intro
  refine ⟨fun vs x hR hF K hK => ?_, ?_⟩
  · have f4 := hF 1 _ _ rfl rfl; have f5 := hF 0 _ _ rfl rfl; clear hF
    go_simp
    exact hK _ _ (Grow.refl _) rfl
  refine Plan.det 8 rfl (Grow.refl) ?_
  apply Exists.intro
  refine ⟨fun vs x hR hF K hK => ?_, ?_⟩
  · have f4 := hF 2 _ _ rfl rfl; have f6 := hF 0 _ _ rfl rfl; clear hF
    go_simp
    exact hK _ _ (Grow.refl _) rfl
  refine Plan.det 9 rfl (Grow.refl) ?_
  apply Exists.intro
  refine ⟨fun vs x hR hF K hK => ?_, ?_⟩
  · have f4 := hF 3 _ _ rfl rfl; have f7 := hF 0 _ _ rfl rfl; have hc := HC.out x hR; clear hF
    go_simp
    exact hK _ _ (Grow.refl _) rfl
  refine Plan.det 10 rfl (Grow.refl) ?_
  apply Exists.intro
  refine ⟨fun vs x hR hF K hK => ?_, ?_⟩
  · have f4 := hF 4 _ _ rfl rfl; clear hF
    go_simp
    exact hK _ _ (Grow.refl _) rfl
  refine Plan.det 11 rfl (Grow.refl) ?_
  apply Exists.intro
  refine ⟨fun vs x hR hF K hK => ?_, ?_⟩
  · have f4 := hF 5 _ _ rfl rfl; have f9 := hF 0 _ _ rfl rfl; clear hF
    go_simp
    exact hK _ _ (Grow.refl _) rfl
  refine Plan.det 12 rfl (Grow.refl) ?_
  apply Exists.intro
  refine ⟨fun vs x hR hF K hK => ?_, ?_⟩
  · have f4 := hF 6 _ _ rfl rfl; have f10 := hF 0 _ _ rfl rfl; clear hF
    go_simp
    exact hK _ _ (Grow.refl _) rfl
  refine Plan.det 13 rfl (Grow.refl) ?_
  apply Exists.intro
  refine ⟨fun vs x hR hF K hK => ?_, ?_⟩
  · have f4 := hF 7 _ _ rfl rfl; have f11 := hF 0 _ _ rfl rfl; have hc := HC.out x hR; clear hF
    go_simp
    exact hK _ _ (Grow.refl _) rfl
  refine Plan.det 14 rfl (Grow.refl) ?_
  apply Exists.intro
  refine ⟨fun vs x hR hF K hK => ?_, ?_⟩
  · have f4 := hF 8 _ _ rfl rfl; have f8 := hF 4 _ _ rfl rfl; have f12 := hF 0 _ _ rfl rfl; clear hF
    go_simp
    exact hK _ _ (Grow.refl _) rfl
  refine Plan.det 15 rfl (Grow.refl) ?_
  apply Exists.intro
  refine ⟨fun vs x hR hF K hK => ?_, ?_⟩
  · have f4 := hF 9 _ _ rfl rfl; have f13 := hF 0 _ _ rfl rfl; clear hF
    go_simp
    exact hK _ _ (Grow.refl _) rfl
  refine Plan.nil (fun vs x hR hF => ?_)
  have f0 := hF 14 _ _ rfl; have f1 := hF 13 _ _ rfl; have f2 := hF 12 _ _ rfl; have f3 := hF 11 _ _ rfl; have f4 := hF 10 _ _ rfl; have f5 := hF 9 _ _ rfl; have f6 := hF 8 _ _ rfl; have f7 := hF 7 _ _ rfl; have f8 := hF 6 _ _ rfl; have f9 := hF 5 _ _ rfl; have f10 := hF 4 _ _ rfl; have f11 := hF 3 _ _ rfl; have f12 := hF 2 _ _ rfl; have f13 := hF 1 _ _ rfl; have f14 := hF 0 _ _ rfl
  clear hF
  simp only [f0, f1, f2, f3, f4, f5, f6, f7, f8, f9, f10, f11, f12, f13, f14]
  clear f0 f1 f2 f3 f4 f5 f6 f7 f8 f9 f10 f11 f12 f13 f14
  simp only [List.drop_succ_cons, List.drop_zero]
  have hbx : Below w.heap.size w x := below_grow HB.out (by simp) hR
  have HBX := hid hbx
  have hfz := HMF.out x hR
  have HR := hid (HC.out x hR).2
  have HPX := hid (HP.out.later hbx)
  clear HC hR hbx qc
  have qc := HPX.out.st.c
  have q := HR.out.c13
  go_wp2_with fail
  obtain ⟨hst, hbut⟩ := HPX.out.st.step
  have HRY := hid (HR.out.but hbut (HPX.out.st.nS HR.out (by decide) (by decide)))
  have HPY : Hid (Pre C n (C.B - n) sp K (.slice sa sp.length sc) (.func (.func fid) #[] cap) (x.setCell ⟨C.M, 2, none⟩ (.int .i64 ((C.B - n : Nat) : Int)))) :=
    ⟨hst, HPX.out.span.but hbut, HPX.out.ok, HPX.out.k.but HPX.out.st hbut, HPX.out.kok.mono (by omega)⟩
  have HBY := hid ((But.of_below HBX.out).trans hbut)
  clear HPX HR HBX hfz qc q hst hbut
  generalize x.setCell ⟨C.M, 2, none⟩ (.int .i64 ((C.B - n : Nat) : Int)) = y at *
  have HC := hid (fun (x : World) (hx : Grow y.drew x) => (⟨(HRY.out.grow hx).c13, ((HPY.out.st.later (grow_below hx)).m.cell 5), ((HPY.out.st.later (grow_below hx)).m.cell 6), ((HPY.out.st.later (grow_below hx)).m.cell 7), ((HPY.out.st.later (grow_below hx)).m.cell 8), ((HPY.out.st.later (grow_below hx)).m.cell 9), ((HPY.out.st.later (grow_below hx)).m.cell 10), ((HPY.out.st.later (grow_below hx)).m.cell 11), ((HPY.out.st.later (grow_below hx)).m.cell 12), ((HPY.out.st.later (grow_below hx)).m.cell 13)⟩ : _ ∧ _ ∧ _ ∧ _ ∧ _ ∧ _ ∧ _ ∧ _ ∧ _ ∧ _))
  refine wp_region_inv 6 (Grow) (by kernel_rfl) (by kernel_rfl) (Grow.refl) (fun _ _ _ => Grow.trans) ?_
  simp only [fill, dstOf, Act.put, List.take_succ_cons, List.take_zero, List.getElem?_toArray, List.getElem?_cons_zero, List.getElem?_cons_succ, Option.bind_some, List.setIfInBounds_toArray, List.set_cons_zero, List.set_cons_succ]
  refine Plan.det 1 rfl (Grow.refl) ?_
  apply Exists.intro
  refine ⟨fun vs x hR hF K hK => ?_, ?_⟩
  · clear hF
    go_simp
    exact hK _ _ (Grow.refl _) rfl
  refine Plan.det 2 rfl (Grow.refl) ?_
  apply Exists.intro
  refine ⟨fun vs x hR hF K hK => ?_, ?_⟩
  · have f0 := hF 0 _ _ rfl rfl; clear hF
    go_simp
    exact hK _ _ (Grow.refl _) rfl
  refine Plan.det 3 rfl (Grow.refl) ?_
  apply Exists.intro
  refine ⟨fun vs x hR hF K hK => ?_, ?_⟩
  · have f1 := hF 0 _ _ rfl rfl; clear hF
    go_simp
    exact hK _ _ (Grow.refl _) rfl
  refine Plan.det 4 rfl (Grow.refl) ?_
  apply Exists.intro
  refine ⟨fun vs x hR hF K hK => ?_, ?_⟩
  · have f2 := hF 0 _ _ rfl rfl; clear hF
    go_simp
    exact hK _ _ (Grow.refl _) rfl
  refine Plan.det 5 rfl (Grow.refl) ?_
  apply Exists.intro
  refine ⟨fun vs x hR hF K hK => ?_, ?_⟩
  · have f3 := hF 0 _ _ rfl rfl; have hc := HC.out x hR; clear hF
    go_simp
    exact hK _ _ (Grow.refl _) rfl
  refine Plan.det 6 rfl (Grow.refl) ?_
  apply Exists.intro
  refine ⟨fun vs x hR hF K hK => ?_, ?_⟩
  · have hc := HC.out x hR; clear hF
    go_simp
    exact hK _ _ (Grow.refl _) rfl
  refine Plan.nil (fun vs x hR hF => ?_)
  have f0 := hF 5 _ _ rfl; have f1 := hF 4 _ _ rfl; have f2 := hF 3 _ _ rfl; have f3 := hF 2 _ _ rfl; have f4 := hF 1 _ _ rfl; have f5 := hF 0 _ _ rfl
  clear hF
  simp only [f0, f1, f2, f3, f4, f5]
  clear f0 f1 f2 f3 f4 f5
  simp only [List.drop_succ_cons, List.drop_zero]
  have HPZ := hid (HPY.out.later (grow_below hR))
  have HBZ := hid (HBY.out.trans (But.of_below (grow_below hR)))
  clear HC hR
  go_wp2_with fail
  refine (HHA.out _ p xs ta tc i k sp K sa sc fid cap HPZ.out HO.out HIN.out HOK.out hik hks).mono ?_
  rintro e w' ⟨o, m, h1, rfl, h3, h4, h5⟩
  have HG : Hid (Good C (Ev C.str C.lines (.try (.mk p xs) i k) sp K (n + 1)) w (.returned (.bool o.isFound)) w') := ⟨o, m, h1, rfl, h3, HBZ.out.trans h4, h5⟩
  clear h1 h3 h4 h5
  generalize o.isFound = fo at *
  go_wp2_with fail
  go_ret
  exact HG.out
theorem try_succ (n : Nat) (H1 : ArmC C n 1 75 (fun t => #[t])) (H2 : ArmC C n 2 76 (fun t => #[t, .pointer (some ⟨C.MB, 0, none⟩)])) (H3 : ArmC C n 3 79 (fun t => #[t, .pointer (some ⟨C.MB, 0, none⟩)])) (H4 : ArmC C n 4 81 (fun t => #[.pointer (some ⟨C.M, 0, none⟩), t])) (H5 : ArmC C n 5 82 (fun t => #[t, .pointer (some ⟨C.MB, 0, none⟩)])) (H6 : ArmC C n 6 85 (fun t => #[.pointer (some ⟨C.M, 0, none⟩), t])) (H7 : ArmC C n 7 77 (fun t => #[t, .pointer (some ⟨C.MB, 0, none⟩)])) (H8 : ArmC C n 8 78 (fun t => #[t, .pointer (some ⟨C.MB, 0, none⟩)])) (H9 : ArmC C n 9 86 (fun t => #[.pointer (some ⟨C.M, 0, none⟩), t])) : TryC C (n + 1) := by
  intro w e cs i k sp K sv nv hin hok hik hks h
  obtain ⟨p, xs⟩ := e
  have hin' := hin
  rw [Re.In] at hin'
  obtain ⟨ta, tc, rfl, hwf, -⟩ := hin'
  obtain ⟨sa, sc, rfl⟩ := h.span.form
  obtain ⟨fid, cap, rfl⟩ := h.k.form
  have hop := hok
  rw [Re.ok] at hop
  obtain ⟨⟨⟨o1, o2⟩, -⟩, -⟩ := hop
  have ho : p.op = 1 ∨ p.op = 2 ∨ p.op = 3 ∨ p.op = 4 ∨ p.op = 5 ∨ p.op = 6 ∨ p.op = 7 ∨ p.op = 8 ∨ p.op = 9 := by omega
  rcases ho with ho | ho | ho | ho | ho | ho | ho | ho | ho
  · exact try1 n H1 w p xs ta tc i k sp K sa sc fid cap h ho hin hok hik hks
  · exact try2 n H2 w p xs ta tc i k sp K sa sc fid cap h ho hin hok hik hks
  · exact try3 n H3 w p xs ta tc i k sp K sa sc fid cap h ho hin hok hik hks
  · exact try4 n H4 w p xs ta tc i k sp K sa sc fid cap h ho hin hok hik hks
  · exact try5 n H5 w p xs ta tc i k sp K sa sc fid cap h ho hin hok hik hks
  · exact try6 n H6 w p xs ta tc i k sp K sa sc fid cap h ho hin hok hik hks
  · exact try7 n H7 w p xs ta tc i k sp K sa sc fid cap h ho hin hok hik hks
  · exact try8 n H8 w p xs ta tc i k sp K sa sc fid cap h ho hin hok hik hks
  · exact try9 n H9 w p xs ta tc i k sp K sa sc fid cap h ho hin hok hik hks
end Go.Proofs.Ythnpbopnpdlmnaa
