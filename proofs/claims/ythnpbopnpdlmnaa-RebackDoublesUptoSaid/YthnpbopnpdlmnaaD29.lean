/- Reback: trees one after the other. -/
import Derived.Test.YthnpbopnpdlmnaaD28
import Derived.Test.YthnpbopnpdlmnaaD09
namespace Go.Proofs.Ythnpbopnpdlmnaa
open Go.RowKit
attribute [local go_sem] gives givesUpon
variable {C : Ctx}

def CatC (C : Ctx) (n : Nat) : Prop := ∀ (w : World) (xs : List Re) (a : Option Addr) (q : Nat) (p : Pay) (ta : Option Addr) (tn tc i k : Nat) (sp : Spans) (K : Kont) (sa : Option Addr) (sc fid : Nat) (cap : Array Value), xs ≠ [] → Re.AllIn C.w0 xs a 0 → xs.length ≤ q → q ≤ maxLen → Re.oks C.N xs → i ≤ k → k ≤ C.s.size → Pre C n (C.B - n) sp K (.slice sa sp.length sc) (.func (.func fid) #[] cap) w →
  Calls Try.prog 80 #[.pointer (some ⟨C.M, 0, none⟩), .slice a xs.length q, .agg #[.int .i64 p.op, .int .u64 p.set.a, .int .u64 p.set.b, .int .u64 p.set.c, .int .u64 p.set.d, .int .i64 p.lo, .int .i64 p.hi, .int .i64 p.gr, .slice ta tn tc, .int .i64 i, .int .i64 k, .slice sa sp.length sc, .func (.func fid) #[] cap]] w (Good C (Ev C.str C.lines (.cat xs i k) sp K n) w)
theorem Re.AllIn.first {x : Re} {xs : List Re} {a : Option Addr} {w0 wr : World} (h : Re.AllIn w0 (x :: xs) a 0) (hb : Below w0.heap.size w0 wr) : ∃ (b o : Nat) (p : Pay) (ad : Option Addr) (n c : Nat), a = some ⟨b, o, none⟩ ∧ CellsAt wr b o [.int .i64 p.op, .int .u64 p.set.a, .int .u64 p.set.b, .int .u64 p.set.c, .int .u64 p.set.d, .int .i64 p.lo, .int .i64 p.hi, .int .i64 p.gr, .slice ad n c] ∧
    x.In w0 [.int .i64 p.op, .int .u64 p.set.a, .int .u64 p.set.b, .int .u64 p.set.c, .int .u64 p.set.d, .int .i64 p.lo, .int .i64 p.hi, .int .i64 p.gr, .slice ad n c] ∧ b < w0.heap.size := by
  obtain ⟨b, o, p, ad, n, c, h1, h2, h3, h4⟩ := h.kid hb 0 (by simp)
  exact ⟨b, o, p, ad, n, c, h1, by have := h2.out; rw [Nat.zero_mul, Nat.add_zero] at this; exact this, h3.out, h4⟩

theorem Pre.mono {n D D' : Nat} {sp : Spans} {K : Kont} {sv nv : Value} {w : World} (h : Pre C n D sp K sv nv w) (hd : D ≤ D') : Pre C n D' sp K sv nv w := ⟨h.st, h.span, h.ok, h.k, h.kok.mono hd⟩
theorem TryC.lit {n : Nat} (HT : TryC C n) (w : World) (e : Re) (p : Pay) (ad : Option Addr) (n' c' i k : Nat) (sp : Spans) (K : Kont) (sv nv : Value) (hin : e.In C.w0 [.int .i64 p.op, .int .u64 p.set.a, .int .u64 p.set.b, .int .u64 p.set.c, .int .u64 p.set.d, .int .i64 p.lo, .int .i64 p.hi, .int .i64 p.gr, .slice ad n' c']) (hok : e.ok C.N) (hik : i ≤ k) (hks : k ≤ C.s.size) (h : Pre C n (C.B - n + 1) sp K sv nv w) :
    Calls Try.prog 89 #[.pointer (some ⟨C.M, 0, none⟩), .agg #[.int .i64 p.op, .int .u64 p.set.a, .int .u64 p.set.b, .int .u64 p.set.c, .int .u64 p.set.d, .int .i64 p.lo, .int .i64 p.hi, .int .i64 p.gr, .slice ad n' c', .int .i64 i, .int .i64 k, sv, nv]] w (Good C (Ev C.str C.lines (.try e i k) sp K n) w) :=
by
  have h1 := HT w e _ i k sp K sv nv hin hok hik hks h
  simp only [List.cons_append, List.nil_append] at h1
  exact h1

set_option maxRecDepth 100000 in
set_option maxHeartbeats 8000000 in
theorem cat_one (n : Nat) (HT : TryC C n) (w : World) (x0 : Re) (a : Option Addr) (q : Nat) (p : Pay) (ta : Option Addr) (tn tc i k : Nat) (sp : Spans) (K : Kont) (sa : Option Addr) (sc fid : Nat) (cap : Array Value) (hin : Re.AllIn C.w0 [x0] a 0) (_hq : 1 ≤ q) (hok : x0.ok C.N) (hik : i ≤ k) (hks : k ≤ C.s.size) (h : Pre C n (C.B - n) sp K (.slice sa sp.length sc) (.func (.func fid) #[] cap) w) :
    Calls Try.prog 80 #[.pointer (some ⟨C.M, 0, none⟩), .slice a 1 q, .agg #[.int .i64 p.op, .int .u64 p.set.a, .int .u64 p.set.b, .int .u64 p.set.c, .int .u64 p.set.d, .int .i64 p.lo, .int .i64 p.hi, .int .i64 p.gr, .slice ta tn tc, .int .i64 i, .int .i64 k, .slice sa sp.length sc, .func (.func fid) #[] cap]] w (Good C (Ev C.str C.lines (.cat [x0] i k) sp K n) w) := by
  obtain ⟨b, o, p', ad, n', c', rfl, hc, hx, hbw⟩ := hin.first (Below.refl _ _)
  obtain ⟨xs, hxs⟩ : ∃ xs : List Re, xs = [] := ⟨[], rfl⟩
  have e1 : (1 : Nat) = xs.length + 1 := by rw [hxs]; rfl
  have HB := hid ((((Below.refl w.heap.size w).alloc (Nat.le_refl _) (.cells #[.pointer (some ⟨C.M, 0, none⟩)] 109)).alloc (by simp) (.cells #[.slice (some ⟨b, o, none⟩) (xs.length + 1) q] 26)).alloc (by simp; omega) (.cells #[.int .i64 p.op, .int .u64 p.set.a, .int .u64 p.set.b, .int .u64 p.set.c, .int .u64 p.set.d, .int .i64 p.lo, .int .i64 p.hi, .int .i64 p.gr, .slice ta tn tc, .int .i64 i, .int .i64 k, .slice sa sp.length sc, .func (.func fid) #[] cap] 138))
  have R0 : Row (((w.alloc (.cells #[.pointer (some ⟨C.M, 0, none⟩)] 109)).alloc (.cells #[.slice (some ⟨b, o, none⟩) (xs.length + 1) q] 26)).alloc (.cells #[.int .i64 p.op, .int .u64 p.set.a, .int .u64 p.set.b, .int .u64 p.set.c, .int .u64 p.set.d, .int .i64 p.lo, .int .i64 p.hi, .int .i64 p.gr, .slice ta tn tc, .int .i64 i, .int .i64 k, .slice sa sp.length sc, .func (.func fid) #[] cap] 138)) w.heap.size [.pointer (some ⟨C.M, 0, none⟩)] 109 := ((Row.new rfl).alloc _).alloc _
  have R1 : Row (((w.alloc (.cells #[.pointer (some ⟨C.M, 0, none⟩)] 109)).alloc (.cells #[.slice (some ⟨b, o, none⟩) (xs.length + 1) q] 26)).alloc (.cells #[.int .i64 p.op, .int .u64 p.set.a, .int .u64 p.set.b, .int .u64 p.set.c, .int .u64 p.set.d, .int .i64 p.lo, .int .i64 p.hi, .int .i64 p.gr, .slice ta tn tc, .int .i64 i, .int .i64 k, .slice sa sp.length sc, .func (.func fid) #[] cap] 138)) (w.heap.size + 1) [.slice (some ⟨b, o, none⟩) (xs.length + 1) q] 26 := (Row.new (by simp)).alloc _
  have R2 : Row (((w.alloc (.cells #[.pointer (some ⟨C.M, 0, none⟩)] 109)).alloc (.cells #[.slice (some ⟨b, o, none⟩) (xs.length + 1) q] 26)).alloc (.cells #[.int .i64 p.op, .int .u64 p.set.a, .int .u64 p.set.b, .int .u64 p.set.c, .int .u64 p.set.d, .int .i64 p.lo, .int .i64 p.hi, .int .i64 p.gr, .slice ta tn tc, .int .i64 i, .int .i64 k, .slice sa sp.length sc, .func (.func fid) #[] cap] 138)) (w.heap.size + 2) [.int .i64 p.op, .int .u64 p.set.a, .int .u64 p.set.b, .int .u64 p.set.c, .int .u64 p.set.d, .int .i64 p.lo, .int .i64 p.hi, .int .i64 p.gr, .slice ta tn tc, .int .i64 i, .int .i64 k, .slice sa sp.length sc, .func (.func fid) #[] cap] 138 := Row.new (by simp)
  have hpre := h.later HB.out
  have HC := hid (fun (x : World) (hx : Grow ((((w.alloc (.cells #[.pointer (some ⟨C.M, 0, none⟩)] 109)).alloc (.cells #[.slice (some ⟨b, o, none⟩) (xs.length + 1) q] 26)).alloc (.cells #[.int .i64 p.op, .int .u64 p.set.a, .int .u64 p.set.b, .int .u64 p.set.c, .int .u64 p.set.d, .int .i64 p.lo, .int .i64 p.hi, .int .i64 p.gr, .slice ta tn tc, .int .i64 i, .int .i64 k, .slice sa sp.length sc, .func (.func fid) #[] cap] 138))).drew x) => (⟨(R0.grow hx).cell 0, (R1.grow hx).cell 0, (R2.grow hx).c13⟩ : _ ∧ _ ∧ _))
  have HX1 := hid (fun (x : World) (hx : Grow ((((w.alloc (.cells #[.pointer (some ⟨C.M, 0, none⟩)] 109)).alloc (.cells #[.slice (some ⟨b, o, none⟩) (xs.length + 1) q] 26)).alloc (.cells #[.int .i64 p.op, .int .u64 p.set.a, .int .u64 p.set.b, .int .u64 p.set.c, .int .u64 p.set.d, .int .i64 p.lo, .int .i64 p.hi, .int .i64 p.gr, .slice ta tn tc, .int .i64 i, .int .i64 k, .slice sa sp.length sc, .func (.func fid) #[] cap] 138))).drew x) => hc.below (hpre.st.below.trans ((grow_below hx).mono hpre.st.below.size)))
  have q0 := R0.cell 0
  have q1 := R1.cell 0
  have q2 := R2.c13
  have HP := hid h
  have HX := hid hx
  have HO := hid hok
  have HTT := hid HT
  subst hxs
  clear hc hx hok h HT hpre R0 R1 R2 e1 hin
  go_enter Try.func80, Try.ntmps80
  go_wp2_with fail
  refine wp_region_inv 13 (Grow) (by kernel_rfl) (by kernel_rfl) (Grow.refl) (fun _ _ _ => Grow.trans) ?_
  simp only [fill, dstOf, Act.put, List.take_succ_cons, List.take_zero, List.getElem?_toArray, List.getElem?_cons_zero, List.getElem?_cons_succ, Option.bind_some, List.setIfInBounds_toArray, List.set_cons_zero, List.set_cons_succ]
  refine Plan.det 1 rfl (Grow.refl) ?_
  apply Exists.intro
  refine ⟨fun vs x hR hF K hK => ?_, ?_⟩
  · have hc := HC.out x hR; clear hF
    go_simp
    exact hK _ _ (Grow.refl _) rfl
  refine Plan.det 2 rfl (Grow.refl) ?_
  apply Exists.intro
  refine ⟨fun vs x hR hF K hK => ?_, ?_⟩
  · have hc := HC.out x hR; clear hF
    go_simp
    exact hK _ _ (Grow.refl _) rfl
  refine Plan.det 3 rfl (Grow.refl) ?_
  apply Exists.intro
  refine ⟨fun vs x hR hF K hK => ?_, ?_⟩
  · have f1 := hF 0 _ _ rfl rfl; clear hF
    go_simp
    exact hK _ _ (Grow.refl _) rfl
  refine Plan.det 4 rfl (Grow.refl) ?_
  apply Exists.intro
  refine ⟨fun vs x hR hF K hK => ?_, ?_⟩
  · have f2 := hF 0 _ _ rfl rfl; have hc := HC.out x hR; clear hF
    rw [if_pos (show Region.wanted _ _ = true from rfl)]
    refine gives_load_agg 28 _ rfl b o f2 _ _ (HX1.out x hR) Try.underlying28 rfl (size_re9 _ _ _ _ _ _ _ _ _) ?_
    exact hK _ _ (Grow.refl _) rfl
  refine Plan.det 5 rfl (Grow.refl) ?_
  apply Exists.intro
  refine ⟨fun vs x hR hF K hK => ?_, ?_⟩
  · clear hF
    go_simp
    exact hK _ _ (Grow.refl _) rfl
  refine Plan.det 6 rfl (Grow.refl) ?_
  apply Exists.intro
  refine ⟨fun vs x hR hF K hK => ?_, ?_⟩
  · have f4 := hF 0 _ _ rfl rfl; have hc := HC.out x hR; clear hF
    go_simp
    exact hK _ _ (Grow.refl _) rfl
  refine Plan.det 7 rfl (Grow.refl) ?_
  apply Exists.intro
  refine ⟨fun vs x hR hF K hK => ?_, ?_⟩
  · clear hF
    go_simp
    exact hK _ _ (Grow.refl _) rfl
  refine Plan.det 8 rfl (Grow.refl) ?_
  apply Exists.intro
  refine ⟨fun vs x hR hF K hK => ?_, ?_⟩
  · have f6 := hF 0 _ _ rfl rfl; have hc := HC.out x hR; clear hF
    go_simp
    exact hK _ _ (Grow.refl _) rfl
  refine Plan.det 9 rfl (Grow.refl) ?_
  apply Exists.intro
  refine ⟨fun vs x hR hF K hK => ?_, ?_⟩
  · clear hF
    go_simp
    exact hK _ _ (Grow.refl _) rfl
  refine Plan.det 10 rfl (Grow.refl) ?_
  apply Exists.intro
  refine ⟨fun vs x hR hF K hK => ?_, ?_⟩
  · have f8 := hF 0 _ _ rfl rfl; have hc := HC.out x hR; clear hF
    go_simp
    exact hK _ _ (Grow.refl _) rfl
  refine Plan.det 11 rfl (Grow.refl) ?_
  apply Exists.intro
  refine ⟨fun vs x hR hF K hK => ?_, ?_⟩
  · clear hF
    go_simp
    exact hK _ _ (Grow.refl _) rfl
  refine Plan.det 12 rfl (Grow.refl) ?_
  apply Exists.intro
  refine ⟨fun vs x hR hF K hK => ?_, ?_⟩
  · have f10 := hF 0 _ _ rfl rfl; have hc := HC.out x hR; clear hF
    go_simp
    exact hK _ _ (Grow.refl _) rfl
  refine Plan.det 13 rfl (Grow.refl) ?_
  apply Exists.intro
  refine ⟨fun vs x hR hF K hK => ?_, ?_⟩
  · have f3 := hF 8 _ _ rfl rfl; have f5 := hF 6 _ _ rfl rfl; have f7 := hF 4 _ _ rfl rfl; have f9 := hF 2 _ _ rfl rfl; have f11 := hF 0 _ _ rfl rfl; clear hF
    go_simp
    exact hK _ _ (Grow.refl _) rfl
  refine Plan.nil (fun vs x hR hF => ?_)
  have f0 := hF 12 _ _ rfl; have f1 := hF 11 _ _ rfl; have f2 := hF 10 _ _ rfl; have f3 := hF 9 _ _ rfl; have f4 := hF 8 _ _ rfl; have f5 := hF 7 _ _ rfl; have f6 := hF 6 _ _ rfl; have f7 := hF 5 _ _ rfl; have f8 := hF 4 _ _ rfl; have f9 := hF 3 _ _ rfl; have f10 := hF 2 _ _ rfl; have f11 := hF 1 _ _ rfl; have f12 := hF 0 _ _ rfl
  clear hF
  simp only [f0, f1, f2, f3, f4, f5, f6, f7, f8, f9, f10, f11, f12]
  clear f0 f1 f2 f3 f4 f5 f6 f7 f8 f9 f10 f11 f12
  simp only [List.drop_succ_cons, List.drop_zero]
  have hbx : Below w.heap.size w x := below_grow HB.out (by simp; omega) hR
  have HBX := hid hbx
  clear HC hR hbx q0 q1 q2 HX1
  go_wp2_with fail
  refine (TryC.lit HTT.out _ x0 p' ad n' c' i k sp K _ _ HX.out HO.out hik hks ((HP.out.later HBX.out).mono (Nat.le_succ _))).mono ?_
  rintro e w' ⟨o, m, h1, rfl, h3, h4, h5⟩
  have HG : Hid (Good C (Ev C.str C.lines (.cat [x0] i k) sp K n) w (.returned (.bool o.isFound)) w') := ⟨o, m, .catOne h1, rfl, h3, (But.of_below HBX.out).trans h4, h5⟩
  clear h1 h3 h4 h5
  generalize o.isFound = fo at *
  go_wp2_with fail
  go_ret
  exact HG.out

def jcell (v : Value) (w : World) : Int := match v with
  | .pointer (some a) => (match w.cell? a with | some (.int _ z) => z | _ => 0)
  | _ => 0
theorem jcell_row {w : World} {b : Nat} {z : Int} {T : TypeId} (h : Row w b [.int .i64 z] T) : jcell (.pointer (some ⟨b, 0, none⟩)) w = z := by
  have := h.cell 0
  simp only [jcell, this]
  rfl
def EndsL (C : Ctx) (w : World) (n : Nat) (E : Out → Nat → Prop) (rest : Nat → Nat → Out → Nat → Prop) (sp : Spans) (K : Kont) (sv nv : Value) (c : Nat) (ov : Bool) (wr : World) : Prop :=
  But C.S w wr ∧ (ov = false → ∃ n', n' ≤ n ∧ Pre C n' (C.B - n') sp K sv nv wr ∧ ∀ o m, rest n' c o m → E o m) ∧ (ov = true → C.St 0 true wr ∧ E .over 0)
def CatLK (C : Ctx) (w : World) (n : Nat) (x0 : Re) (xs : List Re) (i k : Nat) (sp : Spans) (K : Kont) (av : Value) (TKL : List Value) (sv nv : Value) (jb : Nat) (J : Int) (c : Nat) (ov : Bool) (wr : World) : Prop :=
  (Row wr w.heap.size [.pointer (some ⟨C.M, 0, none⟩)] 109 ∧ Row wr (w.heap.size + 1) [av] 26 ∧ Row wr (w.heap.size + 2) TKL 138 ∧ Row wr jb [.int .i64 J] 3) ∧ w.heap.size + 2 < jb ∧ J = (i : Int) + c - 1 ∧
  EndsL C w n (Ev C.str C.lines (.catj x0 xs i k (k + 1 - i)) sp K n) (fun n' c => Ev C.str C.lines (.catj x0 xs i k c) sp K n') sp K sv nv c ov wr

set_option maxRecDepth 100000 in
set_option maxHeartbeats 8000000 in
theorem cat_more (n : Nat) (HT : ∀ m, m ≤ n → TryC C m) (w : World) (x0 y0 : Re) (ys : List Re) (a : Option Addr) (q : Nat) (p : Pay) (ta : Option Addr) (tn tc i k : Nat) (sp : Spans) (K : Kont) (sa : Option Addr) (sc fid : Nat) (cap : Array Value) (hin : Re.AllIn C.w0 (x0 :: y0 :: ys) a 0) (hq : (y0 :: ys).length + 1 ≤ q) (hqm : q ≤ maxLen) (hok : Re.oks C.N (x0 :: y0 :: ys)) (hik : i ≤ k) (hks : k ≤ C.s.size) (h : Pre C n (C.B - n) sp K (.slice sa sp.length sc) (.func (.func fid) #[] cap) w) :
    Calls Try.prog 80 #[.pointer (some ⟨C.M, 0, none⟩), .slice a (x0 :: y0 :: ys).length q, .agg #[.int .i64 p.op, .int .u64 p.set.a, .int .u64 p.set.b, .int .u64 p.set.c, .int .u64 p.set.d, .int .i64 p.lo, .int .i64 p.hi, .int .i64 p.gr, .slice ta tn tc, .int .i64 i, .int .i64 k, .slice sa sp.length sc, .func (.func fid) #[] cap]] w (Good C (Ev C.str C.lines (.cat (x0 :: y0 :: ys) i k) sp K n) w) := by
  obtain ⟨b, o, p', ad, n', c', rfl, hc, hx, hbw⟩ := hin.first (Below.refl _ _)
  obtain ⟨xs, hxs⟩ : ∃ xs : List Re, xs = y0 :: ys := ⟨_, rfl⟩
  have hne : xs ≠ [] := by rw [hxs]; simp
  have hlen : 1 ≤ xs.length := by rw [hxs]; simp
  rw [show (x0 :: y0 :: ys).length = xs.length + 1 by rw [hxs]; rfl]
  rw [← hxs] at hq hin hok
  have HGO : Hid (∀ (e : Ending) (w' : World), Good C (Ev C.str C.lines (.catj x0 xs i k (k + 1 - i)) sp K n) w e w' → Good C (Ev C.str C.lines (.cat (x0 :: y0 :: ys) i k) sp K n) w e w') := by
    intro e w' hg
    rw [hxs] at hg
    exact hg.mono fun o m he => .catMore he
  clear hxs
  have d1 : ((xs.length : Int) + 1 == 1) = false := by simp; omega
  have HB := hid ((((Below.refl w.heap.size w).alloc (Nat.le_refl _) (.cells #[.pointer (some ⟨C.M, 0, none⟩)] 109)).alloc (by simp) (.cells #[.slice (some ⟨b, o, none⟩) (xs.length + 1) q] 26)).alloc (by simp; omega) (.cells #[.int .i64 p.op, .int .u64 p.set.a, .int .u64 p.set.b, .int .u64 p.set.c, .int .u64 p.set.d, .int .i64 p.lo, .int .i64 p.hi, .int .i64 p.gr, .slice ta tn tc, .int .i64 i, .int .i64 k, .slice sa sp.length sc, .func (.func fid) #[] cap] 138))
  have R0 : Row (((w.alloc (.cells #[.pointer (some ⟨C.M, 0, none⟩)] 109)).alloc (.cells #[.slice (some ⟨b, o, none⟩) (xs.length + 1) q] 26)).alloc (.cells #[.int .i64 p.op, .int .u64 p.set.a, .int .u64 p.set.b, .int .u64 p.set.c, .int .u64 p.set.d, .int .i64 p.lo, .int .i64 p.hi, .int .i64 p.gr, .slice ta tn tc, .int .i64 i, .int .i64 k, .slice sa sp.length sc, .func (.func fid) #[] cap] 138)) w.heap.size [.pointer (some ⟨C.M, 0, none⟩)] 109 := ((Row.new rfl).alloc _).alloc _
  have R1 : Row (((w.alloc (.cells #[.pointer (some ⟨C.M, 0, none⟩)] 109)).alloc (.cells #[.slice (some ⟨b, o, none⟩) (xs.length + 1) q] 26)).alloc (.cells #[.int .i64 p.op, .int .u64 p.set.a, .int .u64 p.set.b, .int .u64 p.set.c, .int .u64 p.set.d, .int .i64 p.lo, .int .i64 p.hi, .int .i64 p.gr, .slice ta tn tc, .int .i64 i, .int .i64 k, .slice sa sp.length sc, .func (.func fid) #[] cap] 138)) (w.heap.size + 1) [.slice (some ⟨b, o, none⟩) (xs.length + 1) q] 26 := (Row.new (by simp)).alloc _
  have R2 : Row (((w.alloc (.cells #[.pointer (some ⟨C.M, 0, none⟩)] 109)).alloc (.cells #[.slice (some ⟨b, o, none⟩) (xs.length + 1) q] 26)).alloc (.cells #[.int .i64 p.op, .int .u64 p.set.a, .int .u64 p.set.b, .int .u64 p.set.c, .int .u64 p.set.d, .int .i64 p.lo, .int .i64 p.hi, .int .i64 p.gr, .slice ta tn tc, .int .i64 i, .int .i64 k, .slice sa sp.length sc, .func (.func fid) #[] cap] 138)) (w.heap.size + 2) [.int .i64 p.op, .int .u64 p.set.a, .int .u64 p.set.b, .int .u64 p.set.c, .int .u64 p.set.d, .int .i64 p.lo, .int .i64 p.hi, .int .i64 p.gr, .slice ta tn tc, .int .i64 i, .int .i64 k, .slice sa sp.length sc, .func (.func fid) #[] cap] 138 := Row.new (by simp)
  have q0 := R0.cell 0
  have q1 := R1.cell 0
  have q2 := R2.c13
  have HR0 := hid R0
  have HR1 := hid R1
  have HR2 := hid R2
  have HP := hid h
  have HX := hid hx
  have HO := hid hok
  have HTT := hid HT
  have HNE := hid hne
  have HIN := hid hin
  have HCC := hid hc
  have hsl := h.st.len
  clear hc hx hok h HT R0 R1 R2 hin hne
  go_enter Try.func80, Try.ntmps80
  go_wp2_with fail
  go_loopw [7] (fun v wr => ∃ (jb : Nat) (J : Int) (c : Nat) (ov : Bool), v = .pointer (some ⟨jb, 0, none⟩) ∧ c ≤ k + 1 - i ∧ Hid (CatLK C w n x0 xs i k sp K (.slice (some ⟨b, o, none⟩) (xs.length + 1) q) [.int .i64 p.op, .int .u64 p.set.a, .int .u64 p.set.b, .int .u64 p.set.c, .int .u64 p.set.d, .int .i64 p.lo, .int .i64 p.hi, .int .i64 p.gr, .slice ta tn tc, .int .i64 i, .int .i64 k, .slice sa sp.length sc, .func (.func fid) #[] cap] (.slice sa sp.length sc) (.func (.func fid) #[] cap) jb J c ov wr)) (fun v wr => (jcell v wr + 1 - i).toNat)
  case atStart =>
    refine ⟨w.heap.size + 3, (k : Int), k + 1 - i, false, rfl, Nat.le_refl _, ⟨⟨?_, ?_, ?_, ?_⟩, by omega, by omega, ?_, fun _ => ⟨n, Nat.le_refl _, ?_, fun o m he => he⟩, fun e => by cases e⟩⟩
    · exact HR0.out.alloc _
    · exact HR1.out.alloc _
    · exact HR2.out.alloc _
    · exact Row.new (by simp)
    · exact (But.of_below HB.out).alloc _
    · exact (HP.out.later HB.out).later ((Below.refl _ _).alloc (Nat.le_refl _) _)
  case round =>
    obtain ⟨jb, J, c, ov, rfl, hcl, HL⟩ := hrel
    cases ov with
    | true =>
      obtain ⟨⟨r0, r1, r2, r3⟩, hjb, hJ, hbut, -, hov⟩ := HL.out
      obtain ⟨hst, hev⟩ := hov rfl
      have qc := hst.c
      have p0 := r0.cell 0
      have p1 := r1.cell 0
      have p2 := r2.c13
      have p3 := r3.cell 0
      have HG : Hid (Good C (Ev C.str C.lines (.catj x0 xs i k (k + 1 - i)) sp K n) w (.returned (.bool false)) wr) := ⟨.over, 0, hev, rfl, hst, hbut, fun l hl => by cases hl⟩
      clear r0 r1 r2 r3 hJ hbut hov hst hev q0 q1 q2 HL
      by_cases hJi : (i : Int) ≤ J
      · have d2 : decide ((i : Int) ≤ J) = true := by simp [hJi]
        go_wp2_with fail
        go_ret
        exact HGO.out _ _ HG.out
      · have d2 : decide ((i : Int) ≤ J) = false := by simp [hJi]
        go_wp2_with fail
        go_ret
        exact HGO.out _ _ HG.out
    | false =>
      obtain ⟨⟨r0, r1, r2, r3⟩, hjb, hJ, hbut, hpr, -⟩ := HL.out
      obtain ⟨m', hm', hpre, hrest⟩ := hpr rfl
      have qc := hpre.st.c
      have p0 := r0.cell 0
      have p1 := r1.cell 0
      have p2 := r2.c13
      have p3 := r3.cell 0
      have HPR := hid hpre
      have HRS := hid hrest
      have HBU := hid hbut
      cases c with
      | zero =>
        have d2 : decide ((i : Int) ≤ J) = false := by simp; omega
        clear r0 r1 r2 r3 hJ hbut hpr hpre hrest q0 q1 q2 HL
        go_wp2_with fail
        go_ret
        exact HGO.out _ _ ⟨.fail, m', HRS.out _ _ .catjNone, rfl, HPR.out.st, HBU.out, fun l hl => by cases hl⟩
      | succ c =>
        obtain ⟨j, hj⟩ : ∃ j : Nat, j = i + c := ⟨_, rfl⟩
        obtain rfl : J = (j : Int) := by omega
        have d2 : decide ((i : Int) ≤ (j : Int)) = true := by simp; omega
        have hij2 : i ≤ j := by omega
        have hjk : j ≤ k := by omega
        have HJ := hid hj
        have HRR := hid (⟨r0, r1, r2, r3⟩ : _ ∧ _ ∧ _ ∧ _)
        have HC := hid (fun (x : World) (hx : Grow wr.drew x) => (⟨(r0.grow hx).cell 0, (r1.grow hx).cell 0, (r2.grow hx).c13, (r3.grow hx).cell 0⟩ : _ ∧ _ ∧ _ ∧ _))
        have HX1 := hid (fun (x : World) (hx : Grow wr.drew x) => HCC.out.below (hpre.st.below.trans ((grow_below hx).mono hpre.st.below.size)))
        clear r0 r1 r2 r3 hJ hbut hpr hpre hrest q0 q1 q2 hj
        go_wp2_with fail
        refine wp_region_inv 11 (Grow) (by kernel_rfl) (by kernel_rfl) (Grow.refl) (fun _ _ _ => Grow.trans) ?_
        simp only [fill, dstOf, Act.put, List.take_succ_cons, List.take_zero, List.getElem?_toArray, List.getElem?_cons_zero, List.getElem?_cons_succ, Option.bind_some, List.setIfInBounds_toArray, List.set_cons_zero, List.set_cons_succ]
        refine Plan.det 1 rfl (Grow.refl) ?_
        apply Exists.intro
        refine ⟨fun vs x hR hF K hK => ?_, ?_⟩
        · have hc := HC.out x hR; clear hF
          go_simp
          exact hK _ _ (Grow.refl _) rfl
        refine Plan.det 2 rfl (Grow.refl) ?_
        apply Exists.intro
        refine ⟨fun vs x hR hF K hK => ?_, ?_⟩
        · have hc := HC.out x hR; clear hF
          go_simp
          exact hK _ _ (Grow.refl _) rfl
        refine Plan.det 3 rfl (Grow.refl) ?_
        apply Exists.intro
        refine ⟨fun vs x hR hF K hK => ?_, ?_⟩
        · have f1 := hF 0 _ _ rfl rfl; clear hF
          go_simp
          exact hK _ _ (Grow.refl _) rfl
        refine Plan.det 4 rfl (Grow.refl) ?_
        apply Exists.intro
        refine ⟨fun vs x hR hF K hK => ?_, ?_⟩
        · have f2 := hF 0 _ _ rfl rfl; have hc := HC.out x hR; clear hF
          rw [if_pos (show Region.wanted _ _ = true from rfl)]
          refine gives_load_agg 28 _ rfl b o f2 _ _ (HX1.out x hR) Try.underlying28 rfl (size_re9 _ _ _ _ _ _ _ _ _) ?_
          exact hK _ _ (Grow.refl _) rfl
        refine Plan.det 5 rfl (Grow.refl) ?_
        apply Exists.intro
        refine ⟨fun vs x hR hF K hK => ?_, ?_⟩
        · clear hF
          go_simp
          exact hK _ _ (Grow.refl _) rfl
        refine Plan.det 6 rfl (Grow.refl) ?_
        apply Exists.intro
        refine ⟨fun vs x hR hF K hK => ?_, ?_⟩
        · have f4 := hF 0 _ _ rfl rfl; have hc := HC.out x hR; clear hF
          go_simp
          exact hK _ _ (Grow.refl _) rfl
        refine Plan.det 7 rfl (Grow.refl) ?_
        apply Exists.intro
        refine ⟨fun vs x hR hF K hK => ?_, ?_⟩
        · have hc := HC.out x hR; clear hF
          go_simp
          exact hK _ _ (Grow.refl _) rfl
        refine Plan.det 8 rfl (Grow.refl) ?_
        apply Exists.intro
        refine ⟨fun vs x hR hF K hK => ?_, ?_⟩
        · clear hF
          go_simp
          exact hK _ _ (Grow.refl _) rfl
        refine Plan.det 9 rfl (Grow.refl) ?_
        apply Exists.intro
        refine ⟨fun vs x hR hF K hK => ?_, ?_⟩
        · have f7 := hF 0 _ _ rfl rfl; have hc := HC.out x hR; clear hF
          go_simp
          exact hK _ _ (Grow.refl _) rfl
        refine Plan.det 10 rfl (Grow.refl) ?_
        apply Exists.intro
        refine ⟨fun vs x hR hF K hK => ?_, ?_⟩
        · clear hF
          go_simp
          exact hK _ _ (Grow.refl _) rfl
        refine Plan.det 11 rfl (Grow.refl) ?_
        apply Exists.intro
        refine ⟨fun vs x hR hF K hK => ?_, ?_⟩
        · have f3 := hF 6 _ _ rfl rfl; have f5 := hF 4 _ _ rfl rfl; have f6 := hF 3 _ _ rfl rfl; have f8 := hF 1 _ _ rfl rfl; have f9 := hF 0 _ _ rfl rfl; clear hF
          go_simp
          exact hK _ _ (Grow.refl _) rfl
        refine Plan.nil (fun vs x hR hF => ?_)
        have f0 := hF 10 _ _ rfl; have f1 := hF 9 _ _ rfl; have f2 := hF 8 _ _ rfl; have f3 := hF 7 _ _ rfl; have f4 := hF 6 _ _ rfl; have f5 := hF 5 _ _ rfl; have f6 := hF 4 _ _ rfl; have f7 := hF 3 _ _ rfl; have f8 := hF 2 _ _ rfl; have f9 := hF 1 _ _ rfl; have f10 := hF 0 _ _ rfl
        clear hF
        simp only [f0, f1, f2, f3, f4, f5, f6, f7, f8, f9, f10]
        clear f0 f1 f2 f3 f4 f5 f6 f7 f8 f9 f10
        simp only [List.drop_succ_cons, List.drop_zero]
        have HBX := hid (grow_below hR)
        clear HC hR HX1 p0 p1 p2 p3 qc
        go_wp2_with fail
        have HKA : Hid (KAt C x (.func (.func 100) #[] #[.pointer (some ⟨w.heap.size, 0, none⟩), .pointer (some ⟨w.heap.size + 1, 0, none⟩), .pointer (some ⟨w.heap.size + 2, 0, none⟩), .pointer (some ⟨jb, 0, none⟩)]) (.cat xs j k K)) :=
          .cat (HRR.out.1.below HBX.out HRR.out.1.lt) (HRR.out.2.1.below HBX.out HRR.out.2.1.lt) HIN.out ⟨hq, hqm⟩ (HRR.out.2.2.1.below HBX.out HRR.out.2.2.1.lt) (HRR.out.2.2.2.below HBX.out HRR.out.2.2.2.lt) (HPR.out.later HBX.out).k
        have HPX : Hid (Pre C m' (C.B - m' + 1) sp (.cat xs j k K) (.slice sa sp.length sc) (.func (.func 100) #[] #[.pointer (some ⟨w.heap.size, 0, none⟩), .pointer (some ⟨w.heap.size + 1, 0, none⟩), .pointer (some ⟨w.heap.size + 2, 0, none⟩), .pointer (some ⟨jb, 0, none⟩)]) x) :=
          ⟨(HPR.out.later HBX.out).st, (HPR.out.later HBX.out).span, HPR.out.ok, HKA.out, HNE.out, by have := HO.out; rw [Re.oks] at this; exact this.2, hjk, hks, HPR.out.kok.mono (Nat.le_succ _)⟩
        refine (TryC.lit (HTT.out m' hm') _ x0 p' ad n' c' i j sp (.cat xs j k K) _ _ HX.out (by have := HO.out; rw [Re.oks] at this; exact this.1) (by omega) (by omega) HPX.out).mono ?_
        rintro e w' ⟨o', m, h1, rfl, h3, h4, h5⟩
        have HE := hid h1
        have HST := hid h3
        have HB4 := hid h4
        have HFD := hid h5
        have HBW : Hid (But C.S wr w') := (But.of_below HBX.out).trans h4
        have HR4 : Hid (_ ∧ _ ∧ _ ∧ _) := (⟨HRR.out.1.but HBW.out (HPR.out.st.nS HRR.out.1 (by decide) (by decide)), HRR.out.2.1.but HBW.out (HPR.out.st.nS HRR.out.2.1 (by decide) (by decide)), HRR.out.2.2.1.but HBW.out (HPR.out.st.nS HRR.out.2.2.1 (by decide) (by decide)), HRR.out.2.2.2.but HBW.out (HPR.out.st.nS HRR.out.2.2.2 (by decide) (by decide))⟩ : Row w' _ _ _ ∧ Row w' _ _ _ ∧ Row w' _ _ _ ∧ Row w' _ _ _)
        clear h1 h3 h4 h5
        have p3 := HR4.out.2.2.2.cell 0
        have hjw : IntKind.i64.wrap ((j : Int) - 1) = (j : Int) - 1 := by rw [IntKind.wrap_i64]; omega
        have hsz := HR4.out.2.2.2.lt
        cases o' with
        | found l =>
          simp only [Out.isFound]
          clear hsz
          go_wp2_with fail
          go_ret
          exact HGO.out _ _ ⟨.found l, m, HRS.out _ _ (.catjHit (by have := HE.out; rw [HJ.out] at this; exact this) (by intro h; cases h)), rfl, HST.out, HBU.out.trans HBW.out, HFD.out⟩
        | fail =>
          simp only [Out.isFound]
          go_wp2_with fail
          refine ⟨⟨w'.heap.size, (j : Int) - 1, c, false, rfl, by omega, ⟨⟨HR4.out.1.alloc _, HR4.out.2.1.alloc _, HR4.out.2.2.1.alloc _, Row.new rfl⟩, by omega, by have := HJ.out; omega, (HBU.out.trans HBW.out).alloc _, fun _ => ⟨m, ?_, ?_, fun o2 m2 he => ?_⟩, fun e => by cases e⟩⟩, ?_⟩
          · have := (Ev.left C.str C.lines HE.out).1; omega
          · exact Pre.later ⟨HST.out, HPR.out.span.but HBW.out, HPR.out.ok, HPR.out.k.but HPR.out.st HBW.out, HPR.out.kok.mono (by have := (Ev.left C.str C.lines HE.out).1; omega)⟩ ((Below.refl _ _).alloc (Nat.le_refl _) _)
          · exact HRS.out _ _ (.catjMiss (by have := HE.out; rw [HJ.out] at this; exact this) he)
          · rw [jcell_row (Row.new (w := w') rfl), jcell_row HRR.out.2.2.2]
            omega
        | over =>
          simp only [Out.isFound]
          go_wp2_with fail
          have h0 := (Ev.left C.str C.lines HE.out).2 rfl
          subst h0
          refine ⟨⟨w'.heap.size, (j : Int) - 1, c, true, rfl, by omega, ⟨⟨HR4.out.1.alloc _, HR4.out.2.1.alloc _, HR4.out.2.2.1.alloc _, Row.new rfl⟩, by omega, by have := HJ.out; omega, (HBU.out.trans HBW.out).alloc _, fun e => (by cases e), fun _ => ⟨?_, ?_⟩⟩⟩, ?_⟩
          · exact HST.out.later ((Below.refl _ _).alloc (Nat.le_refl _) _)
          · exact HRS.out _ _ (.catjHit (by have := HE.out; rw [HJ.out] at this; exact this) (by intro h; cases h))
          · rw [jcell_row (Row.new (w := w') rfl), jcell_row HRR.out.2.2.2]
            omega

theorem kcat_any (n : Nat) (HT : ∀ m, m ≤ n → TryC C m) : CatC C n := by
  intro w xs a q p ta tn tc i k sp K sa sc fid cap hne hin hq hqm hok hik hks h
  match xs, hne with
  | [x0], _ => exact cat_one n (HT n (Nat.le_refl _)) w x0 a q p ta tn tc i k sp K sa sc fid cap hin hq (by rw [Re.oks] at hok; exact hok.1) hik hks h
  | x0 :: y0 :: ys, _ => exact cat_more n HT w x0 y0 ys a q p ta tn tc i k sp K sa sc fid cap hin hq hqm hok hik hks h
end Go.Proofs.Ythnpbopnpdlmnaa
