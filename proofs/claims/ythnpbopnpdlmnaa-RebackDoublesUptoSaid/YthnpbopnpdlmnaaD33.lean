/- Reback: what follows in a repetition; the tree that is one; the search's induction. -/
import Derived.Test.YthnpbopnpdlmnaaD32
import Derived.Test.YthnpbopnpdlmnaaD23
namespace Go.Proofs.Ythnpbopnpdlmnaa
open Go.RowKit
attribute [local go_sem] gives givesUpon
variable {C : Ctx}

set_option maxRecDepth 100000 in
set_option maxHeartbeats 8000000 in
theorem next_rep (n : Nat) (K : Kont) (HR : RepC C n K) (p : Pay) (x0 : Re) (c1 j k : Nat) : NextC C n (.rep p x0 c1 j k K) := by
  intro w sp sv fid' cap' h
  have hk := h.k
  obtain ⟨sa, sc, rfl⟩ := h.span.form
  have hkok := h.kok
  have hbig := h.st.big
  cases hk with
  | @rep mb tb gb cb jb _ _ ta tc sa0 i0 sn0 sc0 ga gc c _ _ fid cap _ hm he ht hg hn hc hj hk =>
    rw [Kont.ok] at hkok
    obtain ⟨k1, k2, k3, k4, k5, k6⟩ := hkok
    have HP := hid h
    have HK := hid hk
    have HRR := hid HR
    have HOK := hid k2
    have HO := hid k1
    have HIN := hid he
    have HNU := hid hn
    have HPRE : Hid (Pre C n (C.B - n) sp K (.slice sa sp.length sc) (.func (.func fid) #[] cap) w) := ⟨h.st, h.span, h.ok, hk, k6⟩
    have p0 := hm.cell 0
    have p1 := ht.c13
    have p2 := hg.cell 0
    have p3 := hc.cell 0
    have p4 := hj.cell 0
    clear h hm ht hg hn hc hj hk HR k6 k2 k1 he
    go_enter Try.func101, Try.ntmps101
    go_wp2_with fail
    have H1 := HRR.out w p x0 ta tc i0 sa0 sn0 sc0 ga gc (c + 1) j k sp sa sc fid cap HO.out HIN.out HOK.out k3 k4 k5 HNU.out HPRE.out
    rw [show ((c + 1 : Nat) : Int) = (c : Int) + 1 by omega] at H1
    refine H1.mono ?_
    clear H1
    rintro e w' hg'
    obtain ⟨fo, rfl, HG⟩ := hg'.on (Below.refl _ _) (fun o m he => Ev.nextRep (s := C.str) (lines := C.lines) he)
    clear hg'
    go_wp2_with fail
    go_ret
    exact HG.out

set_option maxRecDepth 100000 in
set_option maxHeartbeats 8000000 in
theorem arm5 (n : Nat) (HR : ∀ K, RepC C n K) : ArmC C n 5 82 (fun t => #[t, .pointer (some ⟨C.MB, 0, none⟩)]) := by
  intro w p xs ta tc i k sp K sa sc fid cap h ho hin hok hik hks
  have hok' := hok
  rw [Re.ok] at hok'
  obtain ⟨x0, hx0⟩ := hok'.2.2.1 (.inl ho)
  subst hx0
  have hin2 := hin
  rw [Re.In] at hin2
  obtain ⟨ad, cp, e, hwf, hcl, hcm, -, hall⟩ := hin2
  have hwo : withinOf (.mk p [x0]) = withinOf x0 := by rw [withinOf, if_neg (by omega)]; simp [withinAll]
  have hsz : (Re.mk p [x0]).size ≤ 1000001 := by rw [Re.size_mk]; have := hok'.1.2; omega
  have R0 : Row (w.alloc (.cells #[.int .i64 p.op, .int .u64 p.set.a, .int .u64 p.set.b, .int .u64 p.set.c, .int .u64 p.set.d, .int .i64 p.lo, .int .i64 p.hi, .int .i64 p.gr, .slice ta 1 tc, .int .i64 i, .int .i64 k, .slice sa sp.length sc, .func (.func fid) #[] cap] 138)) w.heap.size [.int .i64 p.op, .int .u64 p.set.a, .int .u64 p.set.b, .int .u64 p.set.c, .int .u64 p.set.d, .int .i64 p.lo, .int .i64 p.hi, .int .i64 p.gr, .slice ta 1 tc, .int .i64 i, .int .i64 k, .slice sa sp.length sc, .func (.func fid) #[] cap] 138 := Row.new rfl
  have HB := hid ((Below.refl w.heap.size w).alloc (Nat.le_refl _) (.cells #[.int .i64 p.op, .int .u64 p.set.a, .int .u64 p.set.b, .int .u64 p.set.c, .int .u64 p.set.d, .int .i64 p.lo, .int .i64 p.hi, .int .i64 p.gr, .slice ta 1 tc, .int .i64 i, .int .i64 k, .slice sa sp.length sc, .func (.func fid) #[] cap] 138))
  have hpre := h.later HB.out
  have HC := hid (fun (x : World) (hx : Grow ((w.alloc (.cells #[.int .i64 p.op, .int .u64 p.set.a, .int .u64 p.set.b, .int .u64 p.set.c, .int .u64 p.set.d, .int .i64 p.lo, .int .i64 p.hi, .int .i64 p.gr, .slice ta 1 tc, .int .i64 i, .int .i64 k, .slice sa sp.length sc, .func (.func fid) #[] cap] 138))).drew x) => (⟨(R0.grow hx).c13, (hpre.st.later (grow_below hx)).mb.cell 0⟩ : _ ∧ _))
  have HWI := hid (fun (x : World) (hx : Grow ((w.alloc (.cells #[.int .i64 p.op, .int .u64 p.set.a, .int .u64 p.set.b, .int .u64 p.set.c, .int .u64 p.set.d, .int .i64 p.lo, .int .i64 p.hi, .int .i64 p.gr, .slice ta 1 tc, .int .i64 i, .int .i64 k, .slice sa sp.length sc, .func (.func fid) #[] cap] 138))).drew x) => within_any C.w0 C.N (.mk p [x0]) x _ hin hok (hpre.st.below.trans ((grow_below hx).mono hpre.st.below.size)) hsz)
  rw [hwo] at HWI
  have HP := hid h
  have HRR := hid HR
  have HOK := hid hok
  have HIN := hid hin
  have HO := hid ho
  have HGO : Hid (∀ (o : Out) (m : Nat), Ev C.str C.lines (.rep p x0 0 i k) sp K n o m → Ev C.str C.lines (.try (.mk p [x0]) i k) sp K (n + 1) o m) := fun o m he => .tryRep ho he
  clear h hok hok' hin hall hwo hpre R0 HR e ho
  show Calls Try.prog _ #[.agg #[.int .i64 p.op, .int .u64 p.set.a, .int .u64 p.set.b, .int .u64 p.set.c, .int .u64 p.set.d, .int .i64 p.lo, .int .i64 p.hi, .int .i64 p.gr, .slice ta 1 tc, .int .i64 i, .int .i64 k, .slice sa sp.length sc, .func (.func fid) #[] cap], _] w _
  go_enter Try.func82, Try.ntmps82
  go_wp2_with fail
  refine wp_region_inv 9 (Grow) (by kernel_rfl) (by kernel_rfl) (Grow.refl) (fun _ _ _ => Grow.trans) ?_
  simp only [fill, dstOf, Act.put, List.take_succ_cons, List.take_zero, List.getElem?_toArray, List.getElem?_cons_zero, List.getElem?_cons_succ, Option.bind_some, List.setIfInBounds_toArray, List.set_cons_zero, List.set_cons_succ]
  refine Plan.det 1 rfl (Grow.refl) ?_
  apply Exists.intro
  refine ⟨fun vs x hR hF K hK => ?_, ?_⟩
  · have hc := HC.out x hR; clear hF
    go_simp
    exact hK _ _ (Grow.refl _) rfl
  refine Plan.det 2 rfl (Grow.refl) ?_
  apply Exists.intro
  refine ⟨fun vs x hR hF K hK => ?_, ?_⟩
  · have hc := HC.out x hR; clear hF
    go_simp
    exact hK _ _ (Grow.refl _) rfl
  refine Plan.det 3 rfl (Grow.refl) ?_
  apply Exists.intro
  refine ⟨fun vs x hR hF K hK => ?_, ?_⟩
  · clear hF
    go_simp
    exact hK _ _ (Grow.refl _) rfl
  refine Plan.det 4 rfl (Grow.refl) ?_
  apply Exists.intro
  refine ⟨fun vs x hR hF K hK => ?_, ?_⟩
  · have f2 := hF 0 _ _ rfl rfl; have hc := HC.out x hR; clear hF
    go_simp
    exact hK _ _ (Grow.refl _) rfl
  refine Plan.rel 5 rfl (Grow.refl) (fun v y => ∃ (a : Option Addr) (c2 : Nat), v = .slice a (withinOf x0).length c2 ∧ OwnN y (w.heap.size + 1) (.slice a (withinOf x0).length c2) (withinOf x0)) (fun v a b hR ⟨a1, c1, h1, h2⟩ => ⟨a1, c1, h1, h2.below hR⟩) (fun vs x hR hF K hK => ?_) ?_
  · have f3 := hF 0 _ _ rfl rfl
    go_simp
    refine (HWI.out x hR).mono ?_
    rintro e x1 ⟨a, c2, rfl, h1, hbe⟩
    exact ⟨_, rfl, hK _ _ hbe ⟨a, c2, rfl, ⟨h1.1, ownsRow_base h1.2 (by have := (grow_below hR).size; simpa using this)⟩⟩⟩
  refine Plan.det 6 rfl (Grow.refl) ?_
  apply Exists.intro
  refine ⟨fun vs x hR hF K hK => ?_, ?_⟩
  · clear hF
    go_simp
    exact hK _ _ (Grow.refl _) rfl
  refine Plan.det 7 rfl (Grow.refl) ?_
  apply Exists.intro
  refine ⟨fun vs x hR hF K hK => ?_, ?_⟩
  · have f5 := hF 0 _ _ rfl rfl; have hc := HC.out x hR; clear hF
    go_simp
    exact hK _ _ (Grow.refl _) rfl
  refine Plan.det 8 rfl (Grow.refl) ?_
  apply Exists.intro
  refine ⟨fun vs x hR hF K hK => ?_, ?_⟩
  · clear hF
    go_simp
    exact hK _ _ (Grow.refl _) rfl
  refine Plan.det 9 rfl (Grow.refl) ?_
  apply Exists.intro
  refine ⟨fun vs x hR hF K hK => ?_, ?_⟩
  · have f7 := hF 0 _ _ rfl rfl; have hc := HC.out x hR; clear hF
    go_simp
    exact hK _ _ (Grow.refl _) rfl
  refine Plan.nil (fun vs x hR hF => ?_)
  have f0 := hF 8 _ _ rfl; have f1 := hF 7 _ _ rfl; have f2 := hF 6 _ _ rfl; have f3 := hF 5 _ _ rfl; have f4 := hF 4 _ _ rfl; have f5 := hF 3 _ _ rfl; have f6 := hF 2 _ _ rfl; have f7 := hF 1 _ _ rfl; have f8 := hF 0 _ _ rfl
  clear hF
  simp only [f0, f1, f2, f3, f5, f6, f7, f8]
  clear f0 f1 f2 f3 f5 f6 f7 f8
  simp only [List.drop_succ_cons, List.drop_zero]
  have hbx : Below w.heap.size w x := below_grow HB.out (by simp) hR
  have HBX := hid hbx
  obtain ⟨a9, c9, e4, h4⟩ := f4
  have HNU : Hid (NumsAt C.S x (.slice a9 (withinOf x0).length c9) (withinOf x0)) := h4.at (fun b hb => HP.out.st.new (by omega))
  clear HC hR HWI hbx h4
  simp only [e4]
  go_wp2_with fail
  refine (HRR.out K x p x0 ta tc i sa sp.length sc a9 c9 0 i k sp sa sc fid cap HO.out HIN.out HOK.out (Nat.zero_le _) hik hks HNU.out (HP.out.later HBX.out)).mono ?_
  rintro e w' hg'
  obtain ⟨fo, rfl, HG⟩ := hg'.on HBX.out HGO.out
  clear hg'
  go_wp2_with fail
  go_ret
  exact HG.out

theorem next_all (n : Nat) (HT : ∀ m, m ≤ n → TryC C m) : ∀ (K : Kont) (m : Nat), m ≤ n → NextC C m K
  | .done, m, _ => next_done m
  | .mark g i k K, m, hm => next_mark m g i k K (next_all n HT K m hm)
  | .cat xs j k K, m, hm => next_cat m (kcat_any m (fun m' hm' => HT m' (by omega))) xs j k K
  | .rep p x c j k K, m, hm => next_rep m K (rep_any m K (fun m' hm' => HT m' (by omega)) (fun m' hm' => next_all n HT K m' (by omega))) p x c j k
theorem try_all : ∀ n : Nat, TryC C n := by
  intro n
  induction n using Nat.strongRecOn with
  | _ n ih =>
    cases n with
    | zero => exact try_zero
    | succ n =>
      have HT : ∀ m, m ≤ n → TryC C m := fun m hm => ih m (by omega)
      have HN : ∀ K, NextC C n K := fun K => next_all n HT K n (Nat.le_refl _)
      exact try_succ n (arm1 n HN) (arm2 n HN) (arm3 n (kcat_any n HT)) (arm4 n HT) (arm5 n (fun K => rep_any n K HT (fun m hm => next_all n HT K m hm))) (arm6 n (HT n (Nat.le_refl _))) (arm7 n HN) (arm8 n HN) (arm9 n HN)
end Go.Proofs.Ythnpbopnpdlmnaa

/- Reback, plainly: a search at an offset, and at several ones. -/
namespace Go.Proofs.Ythnpbopnpdlmnaa

section
variable (s : List UInt8) (lines : Bool) (e : Re) (N : Nat)
inductive EvAt (at_ : Nat) : Nat → Nat → Out → Nat → Prop where
  | none {n} : EvAt at_ 0 n .fail n
  | hit {c n l m} (h : Ev s lines (.try e at_ (at_ + c)) (unsetAll N) .done n (.found l) m) : EvAt at_ (c + 1) n (.found (((at_ : Int), ((at_ + c : Nat) : Int)) :: l)) m
  | over {c n m} (h : Ev s lines (.try e at_ (at_ + c)) (unsetAll N) .done n .over m) : EvAt at_ (c + 1) n .over m
  | miss {c n m o m'} (h : Ev s lines (.try e at_ (at_ + c)) (unsetAll N) .done n .fail m) (hr : EvAt at_ c m o m') : EvAt at_ (c + 1) n o m'
inductive EvFind : Nat → Nat → Nat → Out → Nat → Prop where
  | none {i n} : EvFind i 0 n .fail n
  | hit {i d n o m} (h : EvAt s lines e N i (s.length + 1 - i) n o m) (ho : o ≠ .fail) : EvFind i (d + 1) n o m
  | miss {i d n m o m'} (h : EvAt s lines e N i (s.length + 1 - i) n .fail m) (hr : EvFind (i + 1) d m o m') : EvFind i (d + 1) n o m'
theorem EvAt.left {a c n o m} (h : EvAt s lines e N a c n o m) : m ≤ n ∧ (o = .over → m = 0) := by
  induction h with
  | none => exact ⟨Nat.le_refl _, fun h => by cases h⟩
  | hit h => have := Ev.left s lines h; exact ⟨this.1, fun h => by cases h⟩
  | over h => have := Ev.left s lines h; exact ⟨this.1, fun _ => this.2 rfl⟩
  | miss h _ ih => have := (Ev.left s lines h).1; exact ⟨by omega, ih.2⟩
theorem EvAt.det {a c n o m} (h : EvAt s lines e N a c n o m) : ∀ o' m', EvAt s lines e N a c n o' m' → o = o' ∧ m = m' := by
  induction h with
  | none => intro o' m' h'; cases h'; exact ⟨rfl, rfl⟩
  | hit h =>
    intro o' m' h'
    cases h' with
    | hit h2 => obtain ⟨e1, e2⟩ := Ev.det s lines h _ _ h2; injection e1 with e1; subst e1; exact ⟨rfl, e2⟩
    | over h2 => obtain ⟨e1, e2⟩ := Ev.det s lines h _ _ h2; cases e1
    | miss h2 => obtain ⟨e1, e2⟩ := Ev.det s lines h _ _ h2; cases e1
  | over h =>
    intro o' m' h'
    cases h' with
    | hit h2 => obtain ⟨e1, e2⟩ := Ev.det s lines h _ _ h2; cases e1
    | over h2 => exact ⟨rfl, (Ev.det s lines h _ _ h2).2⟩
    | miss h2 => obtain ⟨e1, e2⟩ := Ev.det s lines h _ _ h2; cases e1
  | miss h _ ih =>
    intro o' m' h'
    cases h' with
    | hit h2 => obtain ⟨e1, e2⟩ := Ev.det s lines h _ _ h2; cases e1
    | over h2 => obtain ⟨e1, e2⟩ := Ev.det s lines h _ _ h2; cases e1
    | miss h2 hr2 => obtain ⟨-, e2⟩ := Ev.det s lines h _ _ h2; subst e2; exact ih _ _ hr2
theorem EvFind.det {i d n o m} (h : EvFind s lines e N i d n o m) : ∀ o' m', EvFind s lines e N i d n o' m' → o = o' ∧ m = m' := by
  induction h with
  | none => intro o' m' h'; cases h'; exact ⟨rfl, rfl⟩
  | hit h ho =>
    intro o' m' h'
    cases h' with
    | hit h2 _ => exact EvAt.det s lines e N h _ _ h2
    | miss h2 _ => exact absurd (EvAt.det s lines e N h _ _ h2).1 ho
  | miss h _ ih =>
    intro o' m' h'
    cases h' with
    | hit h2 ho => exact absurd (EvAt.det s lines e N h _ _ h2).1.symm ho
    | miss h2 hr2 => obtain ⟨-, e2⟩ := EvAt.det s lines e N h _ _ h2; subst e2; exact ih _ _ hr2
end
end Go.Proofs.Ythnpbopnpdlmnaa

/- Reback: a search at an offset. -/
namespace Go.Proofs.Ythnpbopnpdlmnaa
open Go.RowKit
attribute [local go_sem] gives givesUpon
variable {C : Ctx}



set_option maxRecDepth 100000 in
set_option maxHeartbeats 8000000 in
theorem none_any (w : World) (N : Nat) (hN : N ≤ 9) :
    Calls Try.prog 90 #[.int .i64 N] w fun e w' => ∃ a c, e = .returned (.slice a N c) ∧ Below w.heap.size w w' ∧ SpB (w.heap.size ≤ ·) w' (.slice a N c) (unsetAll N) := by
  obtain ⟨i0, hi, hz0, hz1, hz2⟩ := info_parts info_span
  go_enter Try.func90, Try.ntmps90
  go_wp2_with fail
  go_loopw [3, 5] (fun v i wr => ∃ (k : Nat) (a : Option Addr) (c : Nat), k ≤ N ∧ v = .slice a k c ∧ i = .int .i64 k ∧ Hid (OwnSp wr w.heap.size (.slice a k c) (unsetAll k) ∧ Below w.heap.size w wr)) (fun _ i _ => N - (intOf i).toNat)
  case atStart => exact ⟨0, none, 0, Nat.zero_le _, rfl, rfl, ⟨fun _ => rfl, World.ownsRow_nil _ _ _ _⟩, Below.refl _ _⟩
  case round =>
    obtain ⟨k, a, c, hk, rfl, rfl, HX⟩ := hrel
    by_cases hlt : k < N
    · have hltI : (k : Int) < N := by omega
      have hlk : (unsetAll k).length = k := by simp [unsetAll]
      have hown := HX.out.1.2
      rw [hlk] at hown
      have HOW := hid hown
      have hsz := HX.out.2.size
      clear hown
      go_wp2_with (at_builtin; refine wpList_append_row rfl _ _ 38 rfl w.heap.size 47 i0 (.agg #[.int .i64 0, .int .i64 0]) 2 16 Try.underlying38 hi hz0 hz1 hz2 rfl (by decide) _ k (spc (unsetAll k)) rfl ?c0 ⟨wr.heap.size, 0, none⟩ 1 1 [.int .i64 (-1), .int .i64 (-1)] rfl rfl ?c1 ?c2 ?c3 ?c4 ?c5 (by decide) ?_)
      case c0 => exact HOW.out.alloc _
      case c1 =>
        intro j u hj
        rw [Addr.add_lit, Nat.zero_add]
        exact (Row.new (w := wr) (cs := [.int .i64 (-1), .int .i64 (-1)]) (T := 47) rfl).cell j ▸ hj
      case c2 => intro u hu; simp at hu; rcases hu with rfl | rfl <;> rfl
      case c3 => unfold maxLen; omega
      case c4 => omega
      case c5 => simp; omega
      intro a2 c2 w3 hown3 hgrow hnw
      have hap : OwnSp w3 w.heap.size (.slice a2 (k + 1) c2) (unsetAll (k + 1)) := by
        have := OwnSp.app (m := [(-1, -1)]) (l := unsetAll k) (by simp) hown3 (by rw [hlk]; rfl)
        rw [show unsetAll k ++ [((-1 : Int), (-1 : Int))] = unsetAll (k + 1) from (List.replicate_succ' ..).symm] at this
        exact this
      have hbw : Below w.heap.size w w3 := (HX.out.2.alloc (by omega) _).grown hgrow (by simp; omega) (fun g hg => by
        have := (World.ownsRow.lt HOW.out g hg).1
        omega)
      have HN := hid (⟨hap, hbw⟩ : _ ∧ _)
      clear hown3 hgrow hnw hap hbw
      go_wp2_with fail
      refine ⟨⟨k + 1, a2, c2, by omega, rfl, by go_num, HN.out⟩, ?_⟩
      simp [intOf]; omega
    · obtain rfl : k = N := by omega
      go_wp2_with fail
      go_ret
      exact ⟨a, c, rfl, HX.out.2, HX.out.1.spb⟩

structure Rest (C : Ctx) (n : Nat) (ov : Bool) (w : World) : Prop where
  below : Below C.w0.heap.size C.w0 w
  m : Row w C.M (C.cells ((C.B - n : Nat) : Int) ov) 115
  mb : Row w C.MB [.pointer (some ⟨C.M, 0, none⟩)] 109
  oM : C.w0.heap.size ≤ C.M
  nB : n ≤ C.B
  big : C.B ≤ 20000
  len : C.s.size ≤ 1000000
  few : C.N ≤ 9
theorem Rest.later {n : Nat} {ov : Bool} {w w' : World} (h : Rest C n ov w) (hb : Below w.heap.size w w') : Rest C n ov w' :=
  ⟨h.below.trans (hb.mono h.below.size), h.m.below hb h.m.lt, h.mb.below hb h.mb.lt, h.oM, h.nB, h.big, h.len, h.few⟩
@[reducible] def Ctx.on (C : Ctx) (g : Nat) : Ctx := { C with G := g }
theorem Rest.st {n : Nat} {ov : Bool} {w : World} (h : Rest C n ov w) {g : Nat} {old : Value} (hg : Row w g [old] 38) (h0 : C.w0.heap.size ≤ g) : (C.on g).St n ov w :=
  ⟨h.below, h.m, h.mb, ⟨old, hg⟩, h.oM, h0, h.nB, h.big, h.len, h.few⟩
theorem Rest.of {n : Nat} {ov : Bool} {w : World} {g : Nat} (h : (C.on g).St n ov w) : Rest C n ov w :=
  ⟨h.below, h.m, h.mb, h.oM, h.nB, h.big, h.len, h.few⟩
theorem Rest.c {n : Nat} {ov : Bool} {w : World} (h : Rest C n ov w) : w.cell? ⟨C.M, 0, none⟩ = some (.string C.s) ∧ w.cell? ⟨C.M, 2, none⟩ = some (.int .i64 ((C.B - n : Nat) : Int)) ∧ w.cell? ⟨C.M, 3, none⟩ = some (.int .i64 C.B) ∧ w.cell? ⟨C.M, 4, none⟩ = some (.bool ov) :=
  ⟨h.m.cell 0, h.m.cell 2, h.m.cell 3, h.m.cell 4⟩
theorem Rest.nM {n : Nat} {ov : Bool} {w : World} (h : Rest C n ov w) {b : Nat} {cs : List Value} {T : TypeId} (hr : Row w b cs T) (h1 : T ≠ 115) : b ∉ [C.M] := by
  intro hm
  have e := List.mem_singleton.1 hm
  subst e; exact h1 (hr.typed h.m)
theorem Rest.put {n : Nat} {ov : Bool} {w : World} (h : Rest C n ov w) {b : Nat} {cs : List Value} {T : TypeId} (hr : Row w b cs T) (h1 : T ≠ 115) (h2 : T ≠ 109) (h3 : C.w0.heap.size ≤ b) (j : Nat) (v : Value) : Rest C n ov (w.setCell ⟨b, j, none⟩ v) :=
  ⟨h.below.setCell (by exact h3) _, h.m.other (fun e => by subst e; exact h1 (hr.typed h.m)) _ _, h.mb.other (fun e => by subst e; exact h2 (hr.typed h.mb)) _ _, h.oM, h.nB, h.big, h.len, h.few⟩
def AtPost (C : Ctx) (E : Out → Nat → Prop) (w : World) (e : Ending) (w' : World) : Prop :=
  ∃ (o : Out) (m : Nat) (v : Value), E o m ∧ e = .returned (.tuple #[.agg #[v], .bool o.isFound]) ∧ Rest C m o.isOver w' ∧ But [C.M] w w' ∧ (∀ l, o = .found l → SpB (w.heap.size ≤ ·) w' v l) ∧ (o.isFound = false → v = .slice none 0 0)
end Go.Proofs.Ythnpbopnpdlmnaa

/- Reback: the walk of a search at an offset. -/
namespace Go.Proofs.Ythnpbopnpdlmnaa
open Go.RowKit
attribute [local go_sem] gives givesUpon
variable {C : Ctx}

def AtL (C : Ctx) (w : World) (n : Nat) (e : Re) (at_ : Nat) (BXL : List Value) (c : Nat) (ov : Bool) (wr : World) : Prop :=
  (Row wr w.heap.size BXL 28 ∧ Row wr (w.heap.size + 1) [.slice none 0 0] 43) ∧ But [C.M] w wr ∧
  (ov = false → ∃ n', n' ≤ n ∧ Rest C n' false wr ∧ ∀ o m, EvAt C.str C.lines e C.N at_ c n' o m → EvAt C.str C.lines e C.N at_ (C.s.size + 1 - at_) n o m) ∧ (ov = true → Rest C 0 true wr ∧ EvAt C.str C.lines e C.N at_ (C.s.size + 1 - at_) n .over 0)

set_option maxRecDepth 100000 in
set_option maxHeartbeats 16000000 in
theorem at_any (w : World) (n : Nat) (p : Pay) (xs : List Re) (ad : Option Addr) (cp at_ : Nat) (hin : (Re.mk p xs).In C.w0 [.int .i64 p.op, .int .u64 p.set.a, .int .u64 p.set.b, .int .u64 p.set.c, .int .u64 p.set.d, .int .i64 p.lo, .int .i64 p.hi, .int .i64 p.gr, .slice ad xs.length cp]) (hok : (Re.mk p xs).ok C.N) (hat : at_ ≤ C.s.size) (h : Rest C n false w) :
    Calls Try.prog 61 #[.pointer (some ⟨C.M, 0, none⟩), .agg #[.int .i64 p.op, .int .u64 p.set.a, .int .u64 p.set.b, .int .u64 p.set.c, .int .u64 p.set.d, .int .i64 p.lo, .int .i64 p.hi, .int .i64 p.gr, .slice ad xs.length cp], .int .i64 at_, .int .i64 C.N] w (AtPost C (EvAt C.str C.lines (.mk p xs) C.N at_ (C.s.size + 1 - at_) n) w) := by
  have R0 : Row ((w.alloc (.cells #[.int .i64 p.op, .int .u64 p.set.a, .int .u64 p.set.b, .int .u64 p.set.c, .int .u64 p.set.d, .int .i64 p.lo, .int .i64 p.hi, .int .i64 p.gr, .slice ad xs.length cp] 28)).alloc (.cells #[.slice none 0 0] 43)) w.heap.size [.int .i64 p.op, .int .u64 p.set.a, .int .u64 p.set.b, .int .u64 p.set.c, .int .u64 p.set.d, .int .i64 p.lo, .int .i64 p.hi, .int .i64 p.gr, .slice ad xs.length cp] 28 := (Row.new rfl).alloc _
  have R1 : Row ((w.alloc (.cells #[.int .i64 p.op, .int .u64 p.set.a, .int .u64 p.set.b, .int .u64 p.set.c, .int .u64 p.set.d, .int .i64 p.lo, .int .i64 p.hi, .int .i64 p.gr, .slice ad xs.length cp] 28)).alloc (.cells #[.slice none 0 0] 43)) (w.heap.size + 1) [.slice none 0 0] 43 := Row.new (by simp)
  have hB : Below w.heap.size w ((w.alloc (.cells #[.int .i64 p.op, .int .u64 p.set.a, .int .u64 p.set.b, .int .u64 p.set.c, .int .u64 p.set.d, .int .i64 p.lo, .int .i64 p.hi, .int .i64 p.gr, .slice ad xs.length cp] 28)).alloc (.cells #[.slice none 0 0] 43)) := ((Below.refl w.heap.size w).alloc (Nat.le_refl _) _).alloc (by simp) _
  have HRR := hid (⟨R0, R1⟩ : _ ∧ _)
  have HB := hid hB
  have q0 := R0.c9
  have qc := (h.later hB).c
  have HP := hid h
  have HIN := hid hin
  have HOK := hid hok
  have hlen := h.len
  have hfew := h.few
  clear h hin hok hB R0 R1
  go_enter Try.func61, Try.ntmps61
  go_wp2_with fail
  go_loopw [10] (fun v wr => ∃ (J : Int) (c : Nat) (ov : Bool), v = .int .i64 J ∧ J = (at_ : Int) + c - 1 ∧ c ≤ C.s.size + 1 - at_ ∧ Hid (AtL C w n (.mk p xs) at_ [.int .i64 p.op, .int .u64 p.set.a, .int .u64 p.set.b, .int .u64 p.set.c, .int .u64 p.set.d, .int .i64 p.lo, .int .i64 p.hi, .int .i64 p.gr, .slice ad xs.length cp] c ov wr)) (fun v _ => (intOf v + 1 - at_).toNat)
  case atStart =>
    exact ⟨(C.s.size : Int), C.s.size + 1 - at_, false, rfl, by omega, Nat.le_refl _, ⟨HRR.out, But.of_below HB.out, fun _ => ⟨n, Nat.le_refl _, HP.out.later HB.out, fun o m he => he⟩, fun e => by cases e⟩⟩
  case round =>
    obtain ⟨J, c, ov, rfl, hJ, hc, HL⟩ := hrel
    cases ov with
    | true =>
      obtain ⟨⟨r0, r1⟩, hbut, -, hov⟩ := HL.out
      obtain ⟨hst, hev⟩ := hov rfl
      have p0 := r0.c9
      have pc := hst.c
      have p1 := r1.cell 0
      have pf := r1.free 0
      have HX := hid (⟨r1, hbut, hst, hev⟩ : _ ∧ _ ∧ _ ∧ _)
      clear r0 r1 hbut hov hst hev HL q0 qc
      by_cases hJi : (at_ : Int) ≤ J
      · have d2 : decide ((at_ : Int) ≤ J) = true := by simp [hJi]
        clear hJ
        go_wp2_with fail
        refine bodyPost_ret (results_cell_tmp rfl _ _ (w.heap.size + 1) _ _ _ _ rfl (show _ = some (Obj.cells (List.toArray _) _) from HX.out.1.set 0 (.slice none 0 0)) Try.underlying43 rfl (by kernel_rfl)) rfl ?_
        exact ⟨.over, 0, _, HX.out.2.2.2, rfl, HX.out.2.2.1.put HX.out.1 (by decide) (by decide) (by have := HP.out.below.size; omega) 0 _, HX.out.2.1.setCell (.inr (by simp)) _, fun l hl => (by cases hl), fun _ => rfl⟩
      · have d2 : decide ((at_ : Int) ≤ J) = false := by simp [hJi]
        clear hJ
        go_wp2_with fail
        refine bodyPost_ret (results_cell_tmp rfl _ _ (w.heap.size + 1) _ _ _ _ rfl (show _ = some (Obj.cells (List.toArray _) _) from HX.out.1.set 0 (.slice none 0 0)) Try.underlying43 rfl (by kernel_rfl)) rfl ?_
        exact ⟨.over, 0, _, HX.out.2.2.2, rfl, HX.out.2.2.1.put HX.out.1 (by decide) (by decide) (by have := HP.out.below.size; omega) 0 _, HX.out.2.1.setCell (.inr (by simp)) _, fun l hl => (by cases hl), fun _ => rfl⟩
    | false =>
      obtain ⟨⟨r0, r1⟩, hbut, hpr, -⟩ := HL.out
      obtain ⟨m', hm', hst, hrest⟩ := hpr rfl
      have p0 := r0.c9
      have pc := hst.c
      have p1 := r1.cell 0
      have pf := r1.free 0
      cases c with
      | zero =>
        have HX := hid (⟨r1, hbut, hst, hrest _ _ .none⟩ : _ ∧ _ ∧ _ ∧ _)
        have d2 : decide ((at_ : Int) ≤ J) = false := by simp; omega
        have d3 : ¬ (at_ : Int) ≤ J := by omega
        clear r0 r1 hbut hpr hst hrest HL q0 qc hJ
        go_wp2_with fail
        refine bodyPost_ret (results_cell_tmp rfl _ _ (w.heap.size + 1) _ _ _ _ rfl (show _ = some (Obj.cells (List.toArray _) _) from HX.out.1.set 0 (.slice none 0 0)) Try.underlying43 rfl (by kernel_rfl)) rfl ?_
        exact ⟨.fail, m', _, HX.out.2.2.2, rfl, HX.out.2.2.1.put HX.out.1 (by decide) (by decide) (by have := HP.out.below.size; omega) 0 _, HX.out.2.1.setCell (.inr (by simp)) _, fun l hl => (by cases hl), fun _ => rfl⟩
      | succ c =>
        obtain ⟨k, hk⟩ : ∃ k : Nat, k = at_ + c := ⟨_, rfl⟩
        obtain rfl : J = (k : Int) := by omega
        have hak : at_ ≤ k := by omega
        have hks : k ≤ C.s.size := by omega
        have HK := hid hk
        have HX := hid (⟨r0, r1, hbut, hst, hrest⟩ : _ ∧ _ ∧ _ ∧ _ ∧ _)
        have RG : Row (wr.alloc (.cells #[.slice none 0 0] 38)) wr.heap.size [.slice none 0 0] 38 := Row.new rfl
        have hWG : Below wr.heap.size wr (wr.alloc (.cells #[.slice none 0 0] 38)) := (Below.refl _ _).alloc (Nat.le_refl _) _
        have HWG := hid (⟨RG, hWG⟩ : _ ∧ _)
        have HC := hid (fun (x : World) (hx : Grow ((wr.alloc (.cells #[.slice none 0 0] 38))).drew x) => (r0.alloc (.cells #[.slice none 0 0] 38)).grow hx |>.c9)
        have HNO := hid (fun (x : World) => none_any x C.N hfew)
        have hM' := hid hm'
        clear r0 r1 hbut hpr hst hrest HL q0 qc hJ hk RG hWG
        go_wp2_with fail
        refine wp_region_inv 8 (Grow) (by kernel_rfl) (by kernel_rfl) (Grow.refl) (fun _ _ _ => Grow.trans) ?_
        simp only [fill, dstOf, Act.put, List.take_succ_cons, List.take_zero, List.getElem?_toArray, List.getElem?_cons_zero, List.getElem?_cons_succ, Option.bind_some, List.setIfInBounds_toArray, List.set_cons_zero, List.set_cons_succ]
        refine Plan.det 1 rfl (Grow.refl) ?_
        apply Exists.intro
        refine ⟨fun vs x hR hF K hK => ?_, ?_⟩
        · clear hF
          go_simp
          exact hK _ _ (Grow.refl _) rfl
        refine Plan.det 2 rfl (Grow.refl) ?_
        apply Exists.intro
        refine ⟨fun vs x hR hF K hK => ?_, ?_⟩
        · have hc := HC.out x hR; clear hF
          go_simp
          exact hK _ _ (Grow.refl _) rfl
        refine Plan.det 3 rfl (Grow.refl) ?_
        apply Exists.intro
        refine ⟨fun vs x hR hF K hK => ?_, ?_⟩
        · clear hF
          go_simp
          exact hK _ _ (Grow.refl _) rfl
        refine Plan.det 4 rfl (Grow.refl) ?_
        apply Exists.intro
        refine ⟨fun vs x hR hF K hK => ?_, ?_⟩
        · clear hF
          go_simp
          exact hK _ _ (Grow.refl _) rfl
        refine Plan.det 5 rfl (Grow.refl) ?_
        apply Exists.intro
        refine ⟨fun vs x hR hF K hK => ?_, ?_⟩
        · clear hF
          go_simp
          exact hK _ _ (Grow.refl _) rfl
        refine Plan.rel 6 rfl (Grow.refl) (fun v y => ∃ (a : Option Addr) (c2 : Nat), v = .slice a C.N c2 ∧ SpB (wr.heap.size + 1 ≤ ·) y (.slice a C.N c2) (unsetAll C.N)) (fun v a b hR ⟨a1, c1, h1, h2⟩ => ⟨a1, c1, h1, h2.below hR⟩) (fun vs x hR hF K hK => ?_) ?_
        · have f4 := hF 0 _ _ rfl rfl
          go_simp
          refine (HNO.out x).mono ?_
          rintro e x1 ⟨a, c2, rfl, hbe, h1⟩
          exact ⟨_, rfl, hK _ _ hbe ⟨a, c2, rfl, h1.mono (fun b _ h2 => by have := (grow_below hR).size; simp at this; omega)⟩⟩
        refine Plan.det 7 rfl (Grow.refl) ?_
        apply Exists.intro
        refine ⟨fun vs x hR hF K hK => ?_, ?_⟩
        · clear hF
          go_simp
          exact hK _ _ (Grow.refl _) rfl
        refine Plan.rel 8 rfl (Grow.refl) (fun v y => ∃ (a : Option Addr) (c2 : Nat), v = .agg #[.int .i64 p.op, .int .u64 p.set.a, .int .u64 p.set.b, .int .u64 p.set.c, .int .u64 p.set.d, .int .i64 p.lo, .int .i64 p.hi, .int .i64 p.gr, .slice ad xs.length cp, .int .i64 at_, .int .i64 k, .slice a C.N c2, .func (.func 88) #[] #[.pointer (some ⟨wr.heap.size, 0, none⟩)]] ∧ SpB (wr.heap.size + 1 ≤ ·) y (.slice a C.N c2) (unsetAll C.N)) (fun v a b hR ⟨a1, c1, h1, h2⟩ => ⟨a1, c1, h1, h2.below hR⟩) (fun vs x hR hF K hK => ?_) ?_
        · have f1 := hF 5 _ _ rfl rfl; have f2 := hF 4 _ _ rfl rfl; have f3 := hF 3 _ _ rfl rfl; have f5 := hF 1 _ _ rfl rfl; have f6 := hF 0 _ _ rfl rfl
          obtain ⟨a, c2, e9, h9⟩ := f5
          simp only [e9] at *
          go_simp
          exact hK _ _ (Grow.refl _) ⟨a, c2, rfl, h9⟩
        refine Plan.nil (fun vs x hR hF => ?_)
        have f0 := hF 7 _ _ rfl; have f1 := hF 6 _ _ rfl; have f2 := hF 5 _ _ rfl; have f3 := hF 4 _ _ rfl; have f4 := hF 3 _ _ rfl; have f5 := hF 2 _ _ rfl; have f6 := hF 1 _ _ rfl; have f7 := hF 0 _ _ rfl
        clear hF
        simp only [f0, f1, f2, f3, f4, f6]
        clear f0 f1 f2 f3 f4 f6
        simp only [List.drop_succ_cons, List.drop_zero]
        have hbx := grow_below hR
        have HBX : Hid (Below wr.heap.size wr x) := HWG.out.2.trans (hbx.mono (by simp))
        obtain ⟨a9, c9, e7, h7⟩ := f7
        have HSP := hid h7
        have HGX := hid (HWG.out.1.below hbx (by simp))
        have HRX := hid (HX.out.2.2.2.1.later HBX.out)
        have HST := hid (HRX.out.st HGX.out (by have := HX.out.2.2.2.1.below.size; exact this))
        clear f5 h7 HC hR HNO hbx
        simp only [e7]
        have hul : (unsetAll C.N).length = C.N := by simp [unsetAll]
        have HPX : Hid (Pre (C.on wr.heap.size) m' (C.B - m' + 1) (unsetAll C.N) .done (.slice a9 C.N c9) (.func (.func 88) #[] #[.pointer (some ⟨wr.heap.size, 0, none⟩)]) x) := by
          refine ⟨HST.out, HSP.out.mono (fun b _ hb hm => ?_), ⟨hul, fun y hy => .inl (List.mem_replicate.1 hy).2⟩, .done, trivial⟩
          have h1 := HX.out.2.2.2.1.m.lt
          rcases List.mem_cons.1 hm with e | hm
          · rw [e] at hb; dsimp only at hb; omega
          · have e := List.mem_singleton.1 hm; rw [e] at hb; dsimp only at hb; omega
        clear hul p0 pc p1 pf
        go_wp2_with fail
        refine ((try_all (C := C.on wr.heap.size) m').lit _ (.mk p xs) p ad xs.length cp at_ k (unsetAll C.N) .done _ _ HIN.out HOK.out hak hks HPX.out).mono ?_
        rintro e w' ⟨o', m, h1, rfl, h3, h4, h5⟩
        have HE := hid h1
        have HS3 := hid (Rest.of h3)
        have HG3 := hid h3.g
        have HBW : Hid (But [C.M] wr w') := (But.of_below HBX.out).later h4 (fun i hi => by
          rcases List.mem_cons.1 hi with e | hi
          · exact .inl (by rw [e]; simp)
          · have e := List.mem_singleton.1 hi; exact .inr (by rw [e]; exact Nat.le_refl _))
        have HR2 := hid (⟨HX.out.1.but HBW.out (HX.out.2.2.2.1.nM HX.out.1 (by decide)), HX.out.2.1.but HBW.out (HX.out.2.2.2.1.nM HX.out.2.1 (by decide))⟩ : Row w' _ _ _ ∧ Row w' _ _ _)
        have HBW2 := hid (HX.out.2.2.1.trans HBW.out)
        have hkw : IntKind.i64.wrap ((k : Int) - 1) = (k : Int) - 1 := by rw [IntKind.wrap_i64]; omega
        have hsz := HR2.out.2.lt
        cases o' with
        | found l =>
          obtain ⟨hso, v, hv1, hv2⟩ := h5 l rfl
          obtain ⟨va, vc, rfl⟩ := hv2.form
          have p3 := hv1.cell 0
          have hgl := hv1.lt
          dsimp only at hgl p3
          have p4 := HR2.out.2.cell 0
          have p4f := HR2.out.2.free 0
          have HSL := hid hv2
          have hll := hso.1
          have hwr := HX.out.2.2.1.size
          have hl9 : l.length ≤ 9 := by rw [hll]; exact hfew
          clear h1 h3 h4 h5 hso hv1 hv2 hll
          simp only [Out.isFound]
          obtain ⟨i0, hi, hz0, hz1, hz2⟩ := info_parts info_span
          have HE2 : Hid (EvAt C.str C.lines (.mk p xs) C.N at_ (C.s.size + 1 - at_) n (.found (((at_ : Int), (k : Int)) :: l)) m) := HX.out.2.2.2.2 _ _ (by have h9 := HE.out; rw [HK.out] at h9 ⊢; exact .hit h9)
          have HFIN : Hid (∀ (w3 : World) (a2 : Option Addr) (c2 n2 : Nat), n2 = l.length + 1 → Below w'.heap.size w' w3 → SpB (w.heap.size ≤ ·) w3 (.slice a2 n2 c2) (((at_ : Int), (k : Int)) :: l) → AtPost C (EvAt C.str C.lines (.mk p xs) C.N at_ (C.s.size + 1 - at_) n) w (.returned (.tuple #[.agg #[.slice a2 n2 c2], .bool true])) (w3.setCell ⟨w.heap.size + 1, 0, none⟩ (.slice a2 n2 c2))) := by
            intro w3 a2 c2 n2 hn2 hb3 hs3
            have hr3 := HR2.out.2.below hb3 HR2.out.2.lt
            refine ⟨.found _, m, _, HE2.out, rfl, (HS3.out.later hb3).put hr3 (by decide) (by decide) (by have := HP.out.below.size; omega) 0 _, (HBW2.out.trans (But.of_below hb3)).setCell (.inr (by simp)) _, fun l' hl' => ?_, fun h => (by cases h)⟩
            injection hl' with hl'
            subst hl'
            rcases hs3 with ⟨h0, -⟩ | ⟨h0, b, c, more, e, hb, hr⟩
            · cases h0
            · refine .inr ⟨h0, b, c, more, e, hb, hr.other (fun e2 => ?_) _ _⟩
              subst e2
              exact absurd (hr.typed hr3) (by decide)
          by_cases hl0 : l = []
          · subst hl0
            rcases HSL.out with ⟨-, e⟩ | ⟨h0, -⟩
            · injection e with e1 _ e3
              subst e1; subst e3
              simp only [List.length_nil] at *
              go_wp2_with fail
              refine bodyPost_ret (results_cell_tmp rfl _ _ (w.heap.size + 1) _ _ _ _ rfl (show _ = some (Obj.cells (List.toArray _) _) from (HR2.out.2.set 0 _).alloc _) Try.underlying43 rfl (by kernel_rfl)) rfl ?_
              have hz := HFIN.out (w'.alloc (.cells #[.int .i64 at_, .int .i64 k] 47)) (some ⟨w'.heap.size, 0, none⟩) 1 1 rfl ((Below.refl _ _).alloc (Nat.le_refl _) _) (.inr ⟨by simp, w'.heap.size, 1, [], rfl, by omega, Row.new rfl⟩)
              rw [World.setCell_alloc_past _ _ _ _ (by omega)] at hz
              exact hz
            · exact absurd rfl h0
          · have hpos : 0 < l.length := List.length_pos_iff.2 hl0
            rcases HSL.out with ⟨h0, -⟩ | ⟨-, sb, sc, more, e, -, hsr⟩
            · exact absurd h0 hl0
            injection e with e1 _ e3
            have HSR := hid hsr
            subst e1
            clear hsr e3
            go_wp2_with (at_builtin; refine wpList_append_row rfl _ _ 38 rfl w'.heap.size 47 i0 (.agg #[.int .i64 0, .int .i64 0]) 2 16 Try.underlying38 hi hz0 hz1 hz2 rfl (by decide) _ 1 [.int .i64 at_, .int .i64 k] rfl ?c0 ⟨sb, 0, none⟩ l.length vc (spc l) rfl (spc_length l) ?c1 ?c2 ?c3 ?c4 ?c5 hpos ?_)
            case c0 => exact World.ownsRow_lit w' #[.int .i64 at_, .int .i64 k] 1 (Nat.le_refl _) (by unfold maxLen; omega) rfl
            case c1 =>
              intro j u hj
              first | rw [Addr.add_lit, Nat.zero_add] | skip
              rw [(HSR.out.alloc _).cell j]
              exact List.getElem?_append_left (List.getElem?_eq_some_iff.1 hj).1 ▸ hj
            case c2 => exact spc_one l
            all_goals first | (show 1 + l.length ≤ maxLen; unfold maxLen; omega) | (show w'.heap.size ≤ _; simp; done) | (show _ * 16 ≤ _; omega) | skip
            intro a2 c2 w3 hown hgrow hnw
            have hb3 : Below w'.heap.size w' w3 := ((Below.refl w'.heap.size w').alloc (Nat.le_refl _) _).grown hgrow (by simp) (fun g hg => by simp [Value.ownBlock] at hg; omega)
            have hs3 : SpB (w.heap.size ≤ ·) w3 (.slice a2 (1 + l.length) c2) (((at_ : Int), (k : Int)) :: l) := (SpB.own (sp := ((at_ : Int), (k : Int)) :: l) hown (by simp; omega) (by simp)).mono (fun b _ hb => by omega)
            have HR3 := hid (HR2.out.2.below hb3 HR2.out.2.lt)
            have HFF := hid (HFIN.out w3 a2 c2 (1 + l.length) (by omega) hb3 hs3)
            have p5 := HR3.out.cell 0
            have p5f := HR3.out.free 0
            clear hown hgrow hnw hb3 hs3 p3 p4 p4f
            go_wp2_with fail
            refine bodyPost_ret (results_cell_tmp rfl _ _ (w.heap.size + 1) _ _ _ _ rfl (show _ = some (Obj.cells (List.toArray _) _) from HR3.out.set 0 _) Try.underlying43 rfl (by kernel_rfl)) rfl ?_
            exact HFF.out
        | fail =>
          simp only [Out.isFound]
          clear h1 h3 h4 h5
          go_wp2_with fail
          refine ⟨⟨(k : Int) - 1, c, false, by go_num, by have := HK.out; omega, by omega, HR2.out, HBW2.out, fun _ => ⟨m, ?_, HS3.out, fun o2 m2 he => ?_⟩, fun e => (by cases e)⟩, ?_⟩
          · have := (Ev.left C.str C.lines HE.out).1; have := hM'.out; omega
          · exact HX.out.2.2.2.2 _ _ (.miss (by have h9 := HE.out; rw [HK.out] at h9; exact h9) he)
          · simp [intOf]; omega
        | over =>
          simp only [Out.isFound]
          clear h1 h3 h4 h5
          go_wp2_with fail
          have h0 := (Ev.left C.str C.lines HE.out).2 rfl
          subst h0
          refine ⟨⟨(k : Int) - 1, c, true, by go_num, by have := HK.out; omega, by omega, HR2.out, HBW2.out, fun e => (by cases e), fun _ => ⟨HS3.out, ?_⟩⟩, ?_⟩
          · exact HX.out.2.2.2.2 _ _ (.over (by have h9 := HE.out; rw [HK.out] at h9; exact h9))
          · simp [intOf]; omega
end Go.Proofs.Ythnpbopnpdlmnaa
