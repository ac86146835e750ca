/- Reback: what follows in a repetition; the tree that is one; the search's induction. -/
import Derived.Test.YtnnocekencaadaaRepN
namespace Go.Proofs.Ytnnocekencaadaa
open Go.RowKit
attribute [local go_sem] gives givesUpon
variable {C : Ctx}

set_option maxRecDepth 100000 in
set_option maxHeartbeats 8000000 in
theorem next_rep (n : Nat) (K : Kont) (HR : RepC C n K) (p : Pay) (x0 : Re) (c1 j k : Nat) : NextC C n (.rep p x0 c1 j k K) := by
  intro w sp sv fid' cap' h
  have hk := h.k
  obtain ⟨sa, sc, rfl⟩ := h.span.form
  have hkok := h.kok
  have hbig := h.st.big
  cases hk with
  | @rep mb tb gb cb jb _ _ ta tc sa0 i0 sn0 sc0 ga gc c _ _ fid cap _ hm he ht hg hn hc hj hk =>
    rw [Kont.ok] at hkok
    obtain ⟨k1, k2, k3, k4, k5, k6⟩ := hkok
    have HP := hid h
    have HK := hid hk
    have HRR := hid HR
    have HOK := hid k2
    have HO := hid k1
    have HIN := hid he
    have HNU := hid hn
    have HPRE : Hid (Pre C n (C.B - n) sp K (.slice sa sp.length sc) (.func (.func fid) #[] cap) w) := ⟨h.st, h.span, h.ok, hk, k6⟩
    have p0 := hm.cell 0
    have p1 := ht.c13
    have p2 := hg.cell 0
    have p3 := hc.cell 0
    have p4 := hj.cell 0
    clear h hm ht hg hn hc hj hk HR k6 k2 k1 he
    go_enter Try.func58, Try.ntmps58
    go_wp2_with fail
    have H1 := HRR.out w p x0 ta tc i0 sa0 sn0 sc0 ga gc (c + 1) j k sp sa sc fid cap HO.out HIN.out HOK.out k3 k4 k5 HNU.out HPRE.out
    rw [show ((c + 1 : Nat) : Int) = (c : Int) + 1 by omega] at H1
    refine H1.mono ?_
    clear H1
    rintro e w' hg'
    obtain ⟨fo, rfl, HG⟩ := hg'.on (Below.refl _ _) (fun o m he => Ev.nextRep (s := C.str) (lines := C.lines) he)
    clear hg'
    go_wp2_with fail
    go_ret
    exact HG.out

-- def TK := [.int .i64 p.op, .int .u64 p.set.a, .int .u64 p.set.b, .int .u64 p.set.c, .int .u64 p.set.d, .int .i64 p.lo, .int .i64 p.hi, .int .i64 p.gr, .slice ta 1 tc, .int .i64 i, .int .i64 k, .slice sa sp.length sc, .func (.func fid) #[] cap]
-- def W1 := (w.alloc (.cells #[.int .i64 p.op, .int .u64 p.set.a, .int .u64 p.set.b, .int .u64 p.set.c, .int .u64 p.set.d, .int .i64 p.lo, .int .i64 p.hi, .int .i64 p.gr, .slice ta 1 tc, .int .i64 i, .int .i64 k, .slice sa sp.length sc, .func (.func fid) #[] cap] 74))
set_option maxRecDepth 100000 in
set_option maxHeartbeats 8000000 in
theorem arm5 (n : Nat) (HR : ∀ K, RepC C n K) : ArmC C n 5 39 (fun t => #[t, .pointer (some ⟨C.MB, 0, none⟩)]) := by
  intro w p xs ta tc i k sp K sa sc fid cap h ho hin hok hik hks
  have hok' := hok
  rw [Re.ok] at hok'
  obtain ⟨x0, hx0⟩ := hok'.2.2.1 (.inl ho)
  subst hx0
  have hin2 := hin
  rw [Re.In] at hin2
  obtain ⟨ad, cp, e, hwf, hcl, hcm, -, hall⟩ := hin2
  have hwo : withinOf (.mk p [x0]) = withinOf x0 := by rw [withinOf, if_neg (by omega)]; simp [withinAll]
  have hsz : (Re.mk p [x0]).size ≤ 1000001 := by rw [Re.size_mk]; have := hok'.1.2; omega
  have R0 : Row (w.alloc (.cells #[.int .i64 p.op, .int .u64 p.set.a, .int .u64 p.set.b, .int .u64 p.set.c, .int .u64 p.set.d, .int .i64 p.lo, .int .i64 p.hi, .int .i64 p.gr, .slice ta 1 tc, .int .i64 i, .int .i64 k, .slice sa sp.length sc, .func (.func fid) #[] cap] 74)) w.heap.size [.int .i64 p.op, .int .u64 p.set.a, .int .u64 p.set.b, .int .u64 p.set.c, .int .u64 p.set.d, .int .i64 p.lo, .int .i64 p.hi, .int .i64 p.gr, .slice ta 1 tc, .int .i64 i, .int .i64 k, .slice sa sp.length sc, .func (.func fid) #[] cap] 74 := Row.new rfl
  have HB := hid ((Below.refl w.heap.size w).alloc (Nat.le_refl _) (.cells #[.int .i64 p.op, .int .u64 p.set.a, .int .u64 p.set.b, .int .u64 p.set.c, .int .u64 p.set.d, .int .i64 p.lo, .int .i64 p.hi, .int .i64 p.gr, .slice ta 1 tc, .int .i64 i, .int .i64 k, .slice sa sp.length sc, .func (.func fid) #[] cap] 74))
  have hpre := h.later HB.out
  have HC := hid (fun (x : World) (hx : Grow ((w.alloc (.cells #[.int .i64 p.op, .int .u64 p.set.a, .int .u64 p.set.b, .int .u64 p.set.c, .int .u64 p.set.d, .int .i64 p.lo, .int .i64 p.hi, .int .i64 p.gr, .slice ta 1 tc, .int .i64 i, .int .i64 k, .slice sa sp.length sc, .func (.func fid) #[] cap] 74))).drew x) => (⟨(R0.grow hx).c13, (hpre.st.later (grow_below hx)).mb.cell 0⟩ : _ ∧ _))
  have HWI := hid (fun (x : World) (hx : Grow ((w.alloc (.cells #[.int .i64 p.op, .int .u64 p.set.a, .int .u64 p.set.b, .int .u64 p.set.c, .int .u64 p.set.d, .int .i64 p.lo, .int .i64 p.hi, .int .i64 p.gr, .slice ta 1 tc, .int .i64 i, .int .i64 k, .slice sa sp.length sc, .func (.func fid) #[] cap] 74))).drew x) => within_any C.w0 C.N (.mk p [x0]) x _ hin hok (hpre.st.below.trans ((grow_below hx).mono hpre.st.below.size)) hsz)
  rw [hwo] at HWI
  have HP := hid h
  have HRR := hid HR
  have HOK := hid hok
  have HIN := hid hin
  have HO := hid ho
  have HGO : Hid (∀ (o : Out) (m : Nat), Ev C.str C.lines (.rep p x0 0 i k) sp K n o m → Ev C.str C.lines (.try (.mk p [x0]) i k) sp K (n + 1) o m) := fun o m he => .tryRep ho he
  clear h hok hok' hin hall hwo hpre R0 HR e ho
  show Calls Try.prog _ #[.agg #[.int .i64 p.op, .int .u64 p.set.a, .int .u64 p.set.b, .int .u64 p.set.c, .int .u64 p.set.d, .int .i64 p.lo, .int .i64 p.hi, .int .i64 p.gr, .slice ta 1 tc, .int .i64 i, .int .i64 k, .slice sa sp.length sc, .func (.func fid) #[] cap], _] w _
  go_enter Try.func39, Try.ntmps39
  go_wp2_with fail
  refine wp_region_inv 9 (Grow) (by kernel_rfl) (by kernel_rfl) (Grow.refl) (fun _ _ _ => Grow.trans) ?_
  simp only [fill, dstOf, Act.put, List.take_succ_cons, List.take_zero, List.getElem?_toArray, List.getElem?_cons_zero, List.getElem?_cons_succ, Option.bind_some, List.setIfInBounds_toArray, List.set_cons_zero, List.set_cons_succ]
  refine Plan.det 1 rfl (Grow.refl) ?_
  apply Exists.intro
  refine ⟨fun vs x hR hF K hK => ?_, ?_⟩
  · have hc := HC.out x hR; clear hF
    go_simp
    exact hK _ _ (Grow.refl _) rfl
  refine Plan.det 2 rfl (Grow.refl) ?_
  apply Exists.intro
  refine ⟨fun vs x hR hF K hK => ?_, ?_⟩
  · have hc := HC.out x hR; clear hF
    go_simp
    exact hK _ _ (Grow.refl _) rfl
  refine Plan.det 3 rfl (Grow.refl) ?_
  apply Exists.intro
  refine ⟨fun vs x hR hF K hK => ?_, ?_⟩
  · clear hF
    go_simp
    exact hK _ _ (Grow.refl _) rfl
  refine Plan.det 4 rfl (Grow.refl) ?_
  apply Exists.intro
  refine ⟨fun vs x hR hF K hK => ?_, ?_⟩
  · have f2 := hF 0 _ _ rfl rfl; have hc := HC.out x hR; clear hF
    go_simp
    exact hK _ _ (Grow.refl _) rfl
  refine Plan.rel 5 rfl (Grow.refl) (fun v y => ∃ (a : Option Addr) (c2 : Nat), v = .slice a (withinOf x0).length c2 ∧ OwnN y (w.heap.size + 1) (.slice a (withinOf x0).length c2) (withinOf x0)) (fun v a b hR ⟨a1, c1, h1, h2⟩ => ⟨a1, c1, h1, h2.below hR⟩) (fun vs x hR hF K hK => ?_) ?_
  · have f3 := hF 0 _ _ rfl rfl
    go_simp
    refine (HWI.out x hR).mono ?_
    rintro e x1 ⟨a, c2, rfl, h1, hbe⟩
    exact ⟨_, rfl, hK _ _ hbe ⟨a, c2, rfl, ⟨h1.1, ownsRow_base h1.2 (by have := (grow_below hR).size; simpa using this)⟩⟩⟩
  refine Plan.det 6 rfl (Grow.refl) ?_
  apply Exists.intro
  refine ⟨fun vs x hR hF K hK => ?_, ?_⟩
  · clear hF
    go_simp
    exact hK _ _ (Grow.refl _) rfl
  refine Plan.det 7 rfl (Grow.refl) ?_
  apply Exists.intro
  refine ⟨fun vs x hR hF K hK => ?_, ?_⟩
  · have f5 := hF 0 _ _ rfl rfl; have hc := HC.out x hR; clear hF
    go_simp
    exact hK _ _ (Grow.refl _) rfl
  refine Plan.det 8 rfl (Grow.refl) ?_
  apply Exists.intro
  refine ⟨fun vs x hR hF K hK => ?_, ?_⟩
  · clear hF
    go_simp
    exact hK _ _ (Grow.refl _) rfl
  refine Plan.det 9 rfl (Grow.refl) ?_
  apply Exists.intro
  refine ⟨fun vs x hR hF K hK => ?_, ?_⟩
  · have f7 := hF 0 _ _ rfl rfl; have hc := HC.out x hR; clear hF
    go_simp
    exact hK _ _ (Grow.refl _) rfl
  refine Plan.nil (fun vs x hR hF => ?_)
  have f0 := hF 8 _ _ rfl; have f1 := hF 7 _ _ rfl; have f2 := hF 6 _ _ rfl; have f3 := hF 5 _ _ rfl; have f4 := hF 4 _ _ rfl; have f5 := hF 3 _ _ rfl; have f6 := hF 2 _ _ rfl; have f7 := hF 1 _ _ rfl; have f8 := hF 0 _ _ rfl
  clear hF
  simp only [f0, f1, f2, f3, f5, f6, f7, f8]
  clear f0 f1 f2 f3 f5 f6 f7 f8
  simp only [List.drop_succ_cons, List.drop_zero]
  have hbx : Below w.heap.size w x := below_grow HB.out (by simp) hR
  have HBX := hid hbx
  obtain ⟨a9, c9, e4, h4⟩ := f4
  have HNU : Hid (NumsAt C.S x (.slice a9 (withinOf x0).length c9) (withinOf x0)) := h4.at (fun b hb => HP.out.st.new (by omega))
  clear HC hR HWI hbx h4
  simp only [e4]
  go_wp2_with fail
  refine (HRR.out K x p x0 ta tc i sa sp.length sc a9 c9 0 i k sp sa sc fid cap HO.out HIN.out HOK.out (Nat.zero_le _) hik hks HNU.out (HP.out.later HBX.out)).mono ?_
  rintro e w' hg'
  obtain ⟨fo, rfl, HG⟩ := hg'.on HBX.out HGO.out
  clear hg'
  go_wp2_with fail
  go_ret
  exact HG.out

/-- What follows, whatever it is, once tries with at most n tries left are known. -/
theorem next_all (n : Nat) (HT : ∀ m, m ≤ n → TryC C m) : ∀ (K : Kont) (m : Nat), m ≤ n → NextC C m K
  | .done, m, _ => next_done m
  | .mark g i k K, m, hm => next_mark m g i k K (next_all n HT K m hm)
  | .cat xs j k K, m, hm => next_cat m (kcat_any m (fun m' hm' => HT m' (by omega))) xs j k K
  | .rep p x c j k K, m, hm => next_rep m K (rep_any m K (fun m' hm' => HT m' (by omega)) (fun m' hm' => next_all n HT K m' (by omega))) p x c j k
theorem try_all : ∀ n : Nat, TryC C n := by
  intro n
  induction n using Nat.strongRecOn with
  | _ n ih =>
    cases n with
    | zero => exact try_zero
    | succ n =>
      have HT : ∀ m, m ≤ n → TryC C m := fun m hm => ih m (by omega)
      have HN : ∀ K, NextC C n K := fun K => next_all n HT K n (Nat.le_refl _)
      exact try_succ n (arm1 n HN) (arm2 n HN) (arm3 n (kcat_any n HT)) (arm4 n HT) (arm5 n (fun K => rep_any n K HT (fun m hm => next_all n HT K m hm))) (arm6 n (HT n (Nat.le_refl _))) (arm7 n HN) (arm8 n HN) (arm9 n HN)
end Go.Proofs.Ytnnocekencaadaa
