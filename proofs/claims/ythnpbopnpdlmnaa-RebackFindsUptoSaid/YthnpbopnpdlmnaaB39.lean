/- Reback: what follows in a repetition; the tree that is one; the search's induction. -/
import Derived.Test.YthnpbopnpdlmnaaB38
import Derived.Test.YthnpbopnpdlmnaaB29
namespace Go.Proofs.Ythnpbopnpdlmnaa
open Go.RowKit
attribute [local go_sem] gives givesUpon
variable {C : Ctx}

set_option maxRecDepth 100000 in
set_option maxHeartbeats 8000000 in
theorem next_rep (n : Nat) (K : Kont) (HR : RepC C n K) (p : Pay) (x0 : Re) (c1 j k : Nat) : NextC C n (.rep p x0 c1 j k K) := by
  intro w sp sv fid' cap' h
  have hk := h.k
  obtain ⟨sa, sc, rfl⟩ := h.span.form
  have hkok := h.kok
  have hbig := h.st.big
  cases hk with
  | @rep mb tb gb cb jb _ _ ta tc sa0 i0 sn0 sc0 ga gc c _ _ fid cap _ hm he ht hg hn hc hj hk =>
    rw [Kont.ok] at hkok
    obtain ⟨k1, k2, k3, k4, k5, k6⟩ := hkok
    have HP := hid h
    have HK := hid hk
    have HRR := hid HR
    have HOK := hid k2
    have HO := hid k1
    have HIN := hid he
    have HNU := hid hn
    have HPRE : Hid (Pre C n (C.B - n) sp K (.slice sa sp.length sc) (.func (.func fid) #[] cap) w) := ⟨h.st, h.span, h.ok, hk, k6⟩
    have p0 := hm.cell 0
    have p1 := ht.c13
    have p2 := hg.cell 0
    have p3 := hc.cell 0
    have p4 := hj.cell 0
    clear h hm ht hg hn hc hj hk HR k6 k2 k1 he
    go_enter Try.func101, Try.ntmps101
    go_wp2_with fail
    have H1 := HRR.out w p x0 ta tc i0 sa0 sn0 sc0 ga gc (c + 1) j k sp sa sc fid cap HO.out HIN.out HOK.out k3 k4 k5 HNU.out HPRE.out
    rw [show ((c + 1 : Nat) : Int) = (c : Int) + 1 by omega] at H1
    refine H1.mono ?_
    clear H1
    rintro e w' hg'
    obtain ⟨fo, rfl, HG⟩ := hg'.on (Below.refl _ _) (fun o m he => Ev.nextRep (s := C.str) (lines := C.lines) he)
    clear hg'
    go_wp2_with fail
    go_ret
    exact HG.out

set_option maxRecDepth 100000 in
set_option maxHeartbeats 8000000 in
theorem arm5 (n : Nat) (HR : ∀ K, RepC C n K) : ArmC C n 5 82 (fun t => #[t, .pointer (some ⟨C.MB, 0, none⟩)]) := by
  intro w p xs ta tc i k sp K sa sc fid cap h ho hin hok hik hks
  have hok' := hok
  rw [Re.ok] at hok'
  obtain ⟨x0, hx0⟩ := hok'.2.2.1 (.inl ho)
  subst hx0
  have hin2 := hin
  rw [Re.In] at hin2
  obtain ⟨ad, cp, e, hwf, hcl, hcm, -, hall⟩ := hin2
  have hwo : withinOf (.mk p [x0]) = withinOf x0 := by rw [withinOf, if_neg (by omega)]; simp [withinAll]
  have hsz : (Re.mk p [x0]).size ≤ 1000001 := by rw [Re.size_mk]; have := hok'.1.2; omega
  have R0 : Row (w.alloc (.cells #[.int .i64 p.op, .int .u64 p.set.a, .int .u64 p.set.b, .int .u64 p.set.c, .int .u64 p.set.d, .int .i64 p.lo, .int .i64 p.hi, .int .i64 p.gr, .slice ta 1 tc, .int .i64 i, .int .i64 k, .slice sa sp.length sc, .func (.func fid) #[] cap] 138)) w.heap.size [.int .i64 p.op, .int .u64 p.set.a, .int .u64 p.set.b, .int .u64 p.set.c, .int .u64 p.set.d, .int .i64 p.lo, .int .i64 p.hi, .int .i64 p.gr, .slice ta 1 tc, .int .i64 i, .int .i64 k, .slice sa sp.length sc, .func (.func fid) #[] cap] 138 := Row.new rfl
  have HB := hid ((Below.refl w.heap.size w).alloc (Nat.le_refl _) (.cells #[.int .i64 p.op, .int .u64 p.set.a, .int .u64 p.set.b, .int .u64 p.set.c, .int .u64 p.set.d, .int .i64 p.lo, .int .i64 p.hi, .int .i64 p.gr, .slice ta 1 tc, .int .i64 i, .int .i64 k, .slice sa sp.length sc, .func (.func fid) #[] cap] 138))
  have hpre := h.later HB.out
  have HC := hid (fun (x : World) (hx : Grow ((w.alloc (.cells #[.int .i64 p.op, .int .u64 p.set.a, .int .u64 p.set.b, .int .u64 p.set.c, .int .u64 p.set.d, .int .i64 p.lo, .int .i64 p.hi, .int .i64 p.gr, .slice ta 1 tc, .int .i64 i, .int .i64 k, .slice sa sp.length sc, .func (.func fid) #[] cap] 138))).drew x) => (⟨(R0.grow hx).c13, (hpre.st.later (grow_below hx)).mb.cell 0⟩ : _ ∧ _))
  have HWI := hid (fun (x : World) (hx : Grow ((w.alloc (.cells #[.int .i64 p.op, .int .u64 p.set.a, .int .u64 p.set.b, .int .u64 p.set.c, .int .u64 p.set.d, .int .i64 p.lo, .int .i64 p.hi, .int .i64 p.gr, .slice ta 1 tc, .int .i64 i, .int .i64 k, .slice sa sp.length sc, .func (.func fid) #[] cap] 138))).drew x) => within_any C.w0 C.N (.mk p [x0]) x _ hin hok (hpre.st.below.trans ((grow_below hx).mono hpre.st.below.size)) hsz)
  rw [hwo] at HWI
  have HP := hid h
  have HRR := hid HR
  have HOK := hid hok
  have HIN := hid hin
  have HO := hid ho
  have HGO : Hid (∀ (o : Out) (m : Nat), Ev C.str C.lines (.rep p x0 0 i k) sp K n o m → Ev C.str C.lines (.try (.mk p [x0]) i k) sp K (n + 1) o m) := fun o m he => .tryRep ho he
  clear h hok hok' hin hall hwo hpre R0 HR e ho
  show Calls Try.prog _ #[.agg #[.int .i64 p.op, .int .u64 p.set.a, .int .u64 p.set.b, .int .u64 p.set.c, .int .u64 p.set.d, .int .i64 p.lo, .int .i64 p.hi, .int .i64 p.gr, .slice ta 1 tc, .int .i64 i, .int .i64 k, .slice sa sp.length sc, .func (.func fid) #[] cap], _] w _
  go_enter Try.func82, Try.ntmps82
  go_wp2_with fail
  refine wp_region_inv 9 (Grow) (by kernel_rfl) (by kernel_rfl) (Grow.refl) (fun _ _ _ => Grow.trans) ?_
  simp only [fill, dstOf, Act.put, List.take_succ_cons, List.take_zero, List.getElem?_toArray, List.getElem?_cons_zero, List.getElem?_cons_succ, Option.bind_some, List.setIfInBounds_toArray, List.set_cons_zero, List.set_cons_succ]
  refine Plan.det 1 rfl (Grow.refl) ?_
  apply Exists.intro
  refine ⟨fun vs x hR hF K hK => ?_, ?_⟩
  · have hc := HC.out x hR; clear hF
    go_simp
    exact hK _ _ (Grow.refl _) rfl
  refine Plan.det 2 rfl (Grow.refl) ?_
  apply Exists.intro
  refine ⟨fun vs x hR hF K hK => ?_, ?_⟩
  · have hc := HC.out x hR; clear hF
    go_simp
    exact hK _ _ (Grow.refl _) rfl
  refine Plan.det 3 rfl (Grow.refl) ?_
  apply Exists.intro
  refine ⟨fun vs x hR hF K hK => ?_, ?_⟩
  · clear hF
    go_simp
    exact hK _ _ (Grow.refl _) rfl
  refine Plan.det 4 rfl (Grow.refl) ?_
  apply Exists.intro
  refine ⟨fun vs x hR hF K hK => ?_, ?_⟩
  · have f2 := hF 0 _ _ rfl rfl; have hc := HC.out x hR; clear hF
    go_simp
    exact hK _ _ (Grow.refl _) rfl
  refine Plan.rel 5 rfl (Grow.refl) (fun v y => ∃ (a : Option Addr) (c2 : Nat), v = .slice a (withinOf x0).length c2 ∧ OwnN y (w.heap.size + 1) (.slice a (withinOf x0).length c2) (withinOf x0)) (fun v a b hR ⟨a1, c1, h1, h2⟩ => ⟨a1, c1, h1, h2.below hR⟩) (fun vs x hR hF K hK => ?_) ?_
  · have f3 := hF 0 _ _ rfl rfl
    go_simp
    refine (HWI.out x hR).mono ?_
    rintro e x1 ⟨a, c2, rfl, h1, hbe⟩
    exact ⟨_, rfl, hK _ _ hbe ⟨a, c2, rfl, ⟨h1.1, ownsRow_base h1.2 (by have := (grow_below hR).size; simpa using this)⟩⟩⟩
  refine Plan.det 6 rfl (Grow.refl) ?_
  apply Exists.intro
  refine ⟨fun vs x hR hF K hK => ?_, ?_⟩
  · clear hF
    go_simp
    exact hK _ _ (Grow.refl _) rfl
  refine Plan.det 7 rfl (Grow.refl) ?_
  apply Exists.intro
  refine ⟨fun vs x hR hF K hK => ?_, ?_⟩
  · have f5 := hF 0 _ _ rfl rfl; have hc := HC.out x hR; clear hF
    go_simp
    exact hK _ _ (Grow.refl _) rfl
  refine Plan.det 8 rfl (Grow.refl) ?_
  apply Exists.intro
  refine ⟨fun vs x hR hF K hK => ?_, ?_⟩
  · clear hF
    go_simp
    exact hK _ _ (Grow.refl _) rfl
  refine Plan.det 9 rfl (Grow.refl) ?_
  apply Exists.intro
  refine ⟨fun vs x hR hF K hK => ?_, ?_⟩
  · have f7 := hF 0 _ _ rfl rfl; have hc := HC.out x hR; clear hF
    go_simp
    exact hK _ _ (Grow.refl _) rfl
  refine Plan.nil (fun vs x hR hF => ?_)
  have f0 := hF 8 _ _ rfl; have f1 := hF 7 _ _ rfl; have f2 := hF 6 _ _ rfl; have f3 := hF 5 _ _ rfl; have f4 := hF 4 _ _ rfl; have f5 := hF 3 _ _ rfl; have f6 := hF 2 _ _ rfl; have f7 := hF 1 _ _ rfl; have f8 := hF 0 _ _ rfl
  clear hF
  simp only [f0, f1, f2, f3, f5, f6, f7, f8]
  clear f0 f1 f2 f3 f5 f6 f7 f8
  simp only [List.drop_succ_cons, List.drop_zero]
  have hbx : Below w.heap.size w x := below_grow HB.out (by simp) hR
  have HBX := hid hbx
  obtain ⟨a9, c9, e4, h4⟩ := f4
  have HNU : Hid (NumsAt C.S x (.slice a9 (withinOf x0).length c9) (withinOf x0)) := h4.at (fun b hb => HP.out.st.new (by omega))
  clear HC hR HWI hbx h4
  simp only [e4]
  go_wp2_with fail
  refine (HRR.out K x p x0 ta tc i sa sp.length sc a9 c9 0 i k sp sa sc fid cap HO.out HIN.out HOK.out (Nat.zero_le _) hik hks HNU.out (HP.out.later HBX.out)).mono ?_
  rintro e w' hg'
  obtain ⟨fo, rfl, HG⟩ := hg'.on HBX.out HGO.out
  clear hg'
  go_wp2_with fail
  go_ret
  exact HG.out

/-- What follows, whatever it is, once tries with at most n tries left are known. -/
theorem next_all (n : Nat) (HT : ∀ m, m ≤ n → TryC C m) : ∀ (K : Kont) (m : Nat), m ≤ n → NextC C m K
  | .done, m, _ => next_done m
  | .mark g i k K, m, hm => next_mark m g i k K (next_all n HT K m hm)
  | .cat xs j k K, m, hm => next_cat m (kcat_any m (fun m' hm' => HT m' (by omega))) xs j k K
  | .rep p x c j k K, m, hm => next_rep m K (rep_any m K (fun m' hm' => HT m' (by omega)) (fun m' hm' => next_all n HT K m' (by omega))) p x c j k
theorem try_all : ∀ n : Nat, TryC C n := by
  intro n
  induction n using Nat.strongRecOn with
  | _ n ih =>
    cases n with
    | zero => exact try_zero
    | succ n =>
      have HT : ∀ m, m ≤ n → TryC C m := fun m hm => ih m (by omega)
      have HN : ∀ K, NextC C n K := fun K => next_all n HT K n (Nat.le_refl _)
      exact try_succ n (arm1 n HN) (arm2 n HN) (arm3 n (kcat_any n HT)) (arm4 n HT) (arm5 n (fun K => rep_any n K HT (fun m hm => next_all n HT K m hm))) (arm6 n (HT n (Nat.le_refl _))) (arm7 n HN) (arm8 n HN) (arm9 n HN)
end Go.Proofs.Ythnpbopnpdlmnaa

/- Reback, plainly: a search at an offset, and at several ones. -/
namespace Go.Proofs.Ythnpbopnpdlmnaa

section
variable (s : List UInt8) (lines : Bool) (e : Re) (N : Nat)
/-- At an offset, c ends are left (the least is the offset): n tries before, m after. -/
inductive EvAt (at_ : Nat) : Nat → Nat → Out → Nat → Prop where
  | none {n} : EvAt at_ 0 n .fail n
  | hit {c n l m} (h : Ev s lines (.try e at_ (at_ + c)) (unsetAll N) .done n (.found l) m) : EvAt at_ (c + 1) n (.found (((at_ : Int), ((at_ + c : Nat) : Int)) :: l)) m
  | over {c n m} (h : Ev s lines (.try e at_ (at_ + c)) (unsetAll N) .done n .over m) : EvAt at_ (c + 1) n .over m
  | miss {c n m o m'} (h : Ev s lines (.try e at_ (at_ + c)) (unsetAll N) .done n .fail m) (hr : EvAt at_ c m o m') : EvAt at_ (c + 1) n o m'
/-- At the offsets from i on, d of them. -/
inductive EvFind : Nat → Nat → Nat → Out → Nat → Prop where
  | none {i n} : EvFind i 0 n .fail n
  | hit {i d n o m} (h : EvAt s lines e N i (s.length + 1 - i) n o m) (ho : o ≠ .fail) : EvFind i (d + 1) n o m
  | miss {i d n m o m'} (h : EvAt s lines e N i (s.length + 1 - i) n .fail m) (hr : EvFind (i + 1) d m o m') : EvFind i (d + 1) n o m'
theorem EvAt.left {a c n o m} (h : EvAt s lines e N a c n o m) : m ≤ n ∧ (o = .over → m = 0) := by
  induction h with
  | none => exact ⟨Nat.le_refl _, fun h => by cases h⟩
  | hit h => have := Ev.left s lines h; exact ⟨this.1, fun h => by cases h⟩
  | over h => have := Ev.left s lines h; exact ⟨this.1, fun _ => this.2 rfl⟩
  | miss h _ ih => have := (Ev.left s lines h).1; exact ⟨by omega, ih.2⟩
theorem EvFind.left {i d n o m} (h : EvFind s lines e N i d n o m) : m ≤ n ∧ (o = .over → m = 0) := by
  induction h with
  | none => exact ⟨Nat.le_refl _, fun h => by cases h⟩
  | hit h _ => exact EvAt.left s lines e N h
  | miss h _ ih => have := (EvAt.left s lines e N h).1; exact ⟨by omega, ih.2⟩
theorem EvAt.det {a c n o m} (h : EvAt s lines e N a c n o m) : ∀ o' m', EvAt s lines e N a c n o' m' → o = o' ∧ m = m' := by
  induction h with
  | none => intro o' m' h'; cases h'; exact ⟨rfl, rfl⟩
  | hit h =>
    intro o' m' h'
    cases h' with
    | hit h2 => obtain ⟨e1, e2⟩ := Ev.det s lines h _ _ h2; injection e1 with e1; subst e1; exact ⟨rfl, e2⟩
    | over h2 => obtain ⟨e1, e2⟩ := Ev.det s lines h _ _ h2; cases e1
    | miss h2 => obtain ⟨e1, e2⟩ := Ev.det s lines h _ _ h2; cases e1
  | over h =>
    intro o' m' h'
    cases h' with
    | hit h2 => obtain ⟨e1, e2⟩ := Ev.det s lines h _ _ h2; cases e1
    | over h2 => exact ⟨rfl, (Ev.det s lines h _ _ h2).2⟩
    | miss h2 => obtain ⟨e1, e2⟩ := Ev.det s lines h _ _ h2; cases e1
  | miss h _ ih =>
    intro o' m' h'
    cases h' with
    | hit h2 => obtain ⟨e1, e2⟩ := Ev.det s lines h _ _ h2; cases e1
    | over h2 => obtain ⟨e1, e2⟩ := Ev.det s lines h _ _ h2; cases e1
    | miss h2 hr2 => obtain ⟨-, e2⟩ := Ev.det s lines h _ _ h2; subst e2; exact ih _ _ hr2
theorem EvFind.det {i d n o m} (h : EvFind s lines e N i d n o m) : ∀ o' m', EvFind s lines e N i d n o' m' → o = o' ∧ m = m' := by
  induction h with
  | none => intro o' m' h'; cases h'; exact ⟨rfl, rfl⟩
  | hit h ho =>
    intro o' m' h'
    cases h' with
    | hit h2 _ => exact EvAt.det s lines e N h _ _ h2
    | miss h2 _ => exact absurd (EvAt.det s lines e N h _ _ h2).1 ho
  | miss h _ ih =>
    intro o' m' h'
    cases h' with
    | hit h2 ho => exact absurd (EvAt.det s lines e N h _ _ h2).1.symm ho
    | miss h2 hr2 => obtain ⟨-, e2⟩ := EvAt.det s lines e N h _ _ h2; subst e2; exact ih _ _ hr2
theorem EvAt.cost {a c n o m} (h : EvAt s lines e N a c n o m) (ho : o ≠ .over) : ∀ n', (n - m ≤ n' → EvAt s lines e N a c n' o (n' - (n - m))) ∧ (n' < n - m → EvAt s lines e N a c n' .over 0) := by
  induction h with
  | none => intro n'; exact ⟨fun hc => by rw [Nat.sub_self, Nat.sub_zero]; exact .none, fun hc => by omega⟩
  | hit h => intro n'; exact ⟨fun hc => .hit ((Ev.cost s lines h (by intro h; cases h) n').1 hc), fun hc => .over ((Ev.cost s lines h (by intro h; cases h) n').2 hc)⟩
  | over h => exact absurd rfl ho
  | @miss c n m o m' h hr ih =>
    intro n'
    have h1 := (Ev.left s lines h).1
    have h2 := (EvAt.left s lines e N hr).1
    have hf : Out.fail ≠ .over := by intro h; cases h
    rcases Nat.lt_or_ge n' (n - m) with h3 | h3
    · exact ⟨fun hc => by omega, fun _ => .over ((Ev.cost s lines h hf n').2 h3)⟩
    · refine ⟨fun hc => ?_, fun hc => ?_⟩
      · have h4 := (ih ho (n' - (n - m))).1 (by omega)
        rw [show n' - (n - m) - (m - m') = n' - (n - m') by omega] at h4
        exact .miss ((Ev.cost s lines h hf n').1 h3) h4
      · exact .miss ((Ev.cost s lines h hf n').1 h3) ((ih ho (n' - (n - m))).2 (by omega))
theorem EvFind.cost {i d n o m} (h : EvFind s lines e N i d n o m) (ho : o ≠ .over) : ∀ n', (n - m ≤ n' → EvFind s lines e N i d n' o (n' - (n - m))) ∧ (n' < n - m → EvFind s lines e N i d n' .over 0) := by
  induction h with
  | none => intro n'; exact ⟨fun hc => by rw [Nat.sub_self, Nat.sub_zero]; exact .none, fun hc => by omega⟩
  | hit h hf => intro n'; exact ⟨fun hc => .hit ((EvAt.cost s lines e N h ho n').1 hc) hf, fun hc => .hit ((EvAt.cost s lines e N h ho n').2 hc) (by intro h; cases h)⟩
  | @miss i d n m o m' h hr ih =>
    intro n'
    have h1 := (EvAt.left s lines e N h).1
    have h2 := (EvFind.left s lines e N hr).1
    have hf : Out.fail ≠ .over := by intro h; cases h
    rcases Nat.lt_or_ge n' (n - m) with h3 | h3
    · exact ⟨fun hc => by omega, fun _ => .hit ((EvAt.cost s lines e N h hf n').2 h3) (by intro h; cases h)⟩
    · refine ⟨fun hc => ?_, fun hc => ?_⟩
      · have h4 := (ih ho (n' - (n - m))).1 (by omega)
        rw [show n' - (n - m) - (m - m') = n' - (n - m') by omega] at h4
        exact .miss ((EvAt.cost s lines e N h hf n').1 h3) h4
      · exact .miss ((EvAt.cost s lines e N h hf n').1 h3) ((ih ho (n' - (n - m))).2 (by omega))
end
end Go.Proofs.Ythnpbopnpdlmnaa

/- Reback: a search at an offset. -/
namespace Go.Proofs.Ythnpbopnpdlmnaa
open Go.RowKit
attribute [local go_sem] gives givesUpon
variable {C : Ctx}



set_option maxRecDepth 100000 in
set_option maxHeartbeats 8000000 in
theorem none_any (w : World) (N : Nat) (hN : N ≤ 9) :
    Calls Try.prog 90 #[.int .i64 N] w fun e w' => ∃ a c, e = .returned (.slice a N c) ∧ Below w.heap.size w w' ∧ SpB (w.heap.size ≤ ·) w' (.slice a N c) (unsetAll N) := by
  obtain ⟨i0, hi, hz0, hz1, hz2⟩ := info_parts info_span
  go_enter Try.func90, Try.ntmps90
  go_wp2_with fail
  go_loopw [3, 5] (fun v i wr => ∃ (k : Nat) (a : Option Addr) (c : Nat), k ≤ N ∧ v = .slice a k c ∧ i = .int .i64 k ∧ Hid (OwnSp wr w.heap.size (.slice a k c) (unsetAll k) ∧ Below w.heap.size w wr)) (fun _ i _ => N - (intOf i).toNat)
  case atStart => exact ⟨0, none, 0, Nat.zero_le _, rfl, rfl, ⟨fun _ => rfl, World.ownsRow_nil _ _ _ _⟩, Below.refl _ _⟩
  case round =>
    obtain ⟨k, a, c, hk, rfl, rfl, HX⟩ := hrel
    by_cases hlt : k < N
    · have hltI : (k : Int) < N := by omega
      have hlk : (unsetAll k).length = k := by simp [unsetAll]
      have hown := HX.out.1.2
      rw [hlk] at hown
      have HOW := hid hown
      have hsz := HX.out.2.size
      clear hown
      go_wp2_with (at_builtin; refine wpList_append_row rfl _ _ 38 rfl w.heap.size 47 i0 (.agg #[.int .i64 0, .int .i64 0]) 2 16 Try.underlying38 hi hz0 hz1 hz2 rfl (by decide) _ k (spc (unsetAll k)) rfl ?c0 ⟨wr.heap.size, 0, none⟩ 1 1 [.int .i64 (-1), .int .i64 (-1)] rfl rfl ?c1 ?c2 ?c3 ?c4 ?c5 (by decide) ?_)
      case c0 => exact HOW.out.alloc _
      case c1 =>
        intro j u hj
        rw [Addr.add_lit, Nat.zero_add]
        exact (Row.new (w := wr) (cs := [.int .i64 (-1), .int .i64 (-1)]) (T := 47) rfl).cell j ▸ hj
      case c2 => intro u hu; simp at hu; rcases hu with rfl | rfl <;> rfl
      case c3 => unfold maxLen; omega
      case c4 => omega
      case c5 => simp; omega
      intro a2 c2 w3 hown3 hgrow hnw
      have hap : OwnSp w3 w.heap.size (.slice a2 (k + 1) c2) (unsetAll (k + 1)) := by
        have := OwnSp.app (m := [(-1, -1)]) (l := unsetAll k) (by simp) hown3 (by rw [hlk]; rfl)
        rw [show unsetAll k ++ [((-1 : Int), (-1 : Int))] = unsetAll (k + 1) from (List.replicate_succ' ..).symm] at this
        exact this
      have hbw : Below w.heap.size w w3 := (HX.out.2.alloc (by omega) _).grown hgrow (by simp; omega) (fun g hg => by
        have := (World.ownsRow.lt HOW.out g hg).1
        omega)
      have HN := hid (⟨hap, hbw⟩ : _ ∧ _)
      clear hown3 hgrow hnw hap hbw
      go_wp2_with fail
      refine ⟨⟨k + 1, a2, c2, by omega, rfl, by go_num, HN.out⟩, ?_⟩
      simp [intOf]; omega
    · obtain rfl : k = N := by omega
      go_wp2_with fail
      go_ret
      exact ⟨a, c, rfl, HX.out.2, HX.out.1.spb⟩

/-- The search between two tries. -/
structure Rest (C : Ctx) (n : Nat) (ov : Bool) (w : World) : Prop where
  below : Below C.w0.heap.size C.w0 w
  m : Row w C.M (C.cells ((C.B - n : Nat) : Int) ov) 115
  mb : Row w C.MB [.pointer (some ⟨C.M, 0, none⟩)] 109
  oM : C.w0.heap.size ≤ C.M
  nB : n ≤ C.B
  big : C.B ≤ 20000
  len : C.s.size ≤ 1000000
  few : C.N ≤ 9
theorem Rest.later {n : Nat} {ov : Bool} {w w' : World} (h : Rest C n ov w) (hb : Below w.heap.size w w') : Rest C n ov w' :=
  ⟨h.below.trans (hb.mono h.below.size), h.m.below hb h.m.lt, h.mb.below hb h.mb.lt, h.oM, h.nB, h.big, h.len, h.few⟩
@[reducible] def Ctx.on (C : Ctx) (g : Nat) : Ctx := { C with G := g }
theorem Rest.st {n : Nat} {ov : Bool} {w : World} (h : Rest C n ov w) {g : Nat} {old : Value} (hg : Row w g [old] 38) (h0 : C.w0.heap.size ≤ g) : (C.on g).St n ov w :=
  ⟨h.below, h.m, h.mb, ⟨old, hg⟩, h.oM, h0, h.nB, h.big, h.len, h.few⟩
theorem Rest.of {n : Nat} {ov : Bool} {w : World} {g : Nat} (h : (C.on g).St n ov w) : Rest C n ov w :=
  ⟨h.below, h.m, h.mb, h.oM, h.nB, h.big, h.len, h.few⟩
theorem Rest.c {n : Nat} {ov : Bool} {w : World} (h : Rest C n ov w) : w.cell? ⟨C.M, 0, none⟩ = some (.string C.s) ∧ w.cell? ⟨C.M, 2, none⟩ = some (.int .i64 ((C.B - n : Nat) : Int)) ∧ w.cell? ⟨C.M, 3, none⟩ = some (.int .i64 C.B) ∧ w.cell? ⟨C.M, 4, none⟩ = some (.bool ov) :=
  ⟨h.m.cell 0, h.m.cell 2, h.m.cell 3, h.m.cell 4⟩
theorem Rest.nM {n : Nat} {ov : Bool} {w : World} (h : Rest C n ov w) {b : Nat} {cs : List Value} {T : TypeId} (hr : Row w b cs T) (h1 : T ≠ 115) : b ∉ [C.M] := by
  intro hm
  have e := List.mem_singleton.1 hm
  subst e; exact h1 (hr.typed h.m)
theorem Rest.put {n : Nat} {ov : Bool} {w : World} (h : Rest C n ov w) {b : Nat} {cs : List Value} {T : TypeId} (hr : Row w b cs T) (h1 : T ≠ 115) (h2 : T ≠ 109) (h3 : C.w0.heap.size ≤ b) (j : Nat) (v : Value) : Rest C n ov (w.setCell ⟨b, j, none⟩ v) :=
  ⟨h.below.setCell (by exact h3) _, h.m.other (fun e => by subst e; exact h1 (hr.typed h.m)) _ _, h.mb.other (fun e => by subst e; exact h2 (hr.typed h.mb)) _ _, h.oM, h.nB, h.big, h.len, h.few⟩
/-- How a search at offsets may end. -/
def AtPost (C : Ctx) (E : Out → Nat → Prop) (w : World) (e : Ending) (w' : World) : Prop :=
  ∃ (o : Out) (m : Nat) (v : Value), E o m ∧ e = .returned (.tuple #[.agg #[v], .bool o.isFound]) ∧ Rest C m o.isOver w' ∧ But [C.M] w w' ∧ (∀ l, o = .found l → SpB (w.heap.size ≤ ·) w' v l) ∧ (o.isFound = false → v = .slice none 0 0)
end Go.Proofs.Ythnpbopnpdlmnaa
