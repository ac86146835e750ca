/- The law ReprogJoins: its walk answers true. -/
import Derived.Test.YtnlaffhkcdfkjaaAwake10
import Derived.Test.YtnlaffhkcdfkjaaBareGo
import Derived.Test.YtnlaffhkcdfkjaaShift
namespace Go.Proofs.Ytnlaffhkcdfkjaa
open Go.RowKit
attribute [local go_sem] gives givesUpon

theorem Re.compiled_small {t : Re} (h : t.compiled.2 = 0) (k : Nat) (hk : k < t.compiled.1.length) : t.compiled.1[k].small := by
  have h4 := (Re.compiled_zero h).2.2.2.1
  rcases Re.compiled_at h k hk with ⟨-, h2⟩ | ⟨-, h2⟩
  · rcases h2 with h2 | ⟨h2, h3, h5⟩ | ⟨h2, h3⟩
    · exact ⟨fun e => by omega, fun e => by omega⟩
    · exact ⟨fun _ => by omega, fun _ => by omega⟩
    · exact ⟨fun _ => by omega, fun e => by omega⟩
  · rw [h2]; exact ⟨fun e => absurd e (by decide), fun e => absurd e (by decide)⟩
theorem Re.compiled_pos {t : Re} (h : t.compiled.2 = 0) : 1 ≤ t.compiled.1.length := by rw [Re.compiled_len h]; omega
theorem OwnI.joined {w : World} {base n : Nat} {v : Value} {L M : List Inst} (h : w.ownsRow base 39 7 v n (L.flatMap Inst.cells ++ M.flatMap Inst.cells)) (hn : n = L.length + M.length) : OwnI w base v (L ++ M) := by
  subst hn
  unfold OwnI
  rw [List.length_append, List.flatMap_append]
  exact h
theorem OwnI.fresh {w : World} {base n : Nat} {v : Value} {L : List Inst} (h : w.ownsRow base 39 7 v n (L.flatMap Inst.cells)) (hn : n = L.length) : OwnI w base v L := by subst hn; exact h
theorem grown_below {w w' : World} {row : Option Nat} {base : Nat} (h : w.grownBy w' row) (hr : ∀ g, row = some g → base ≤ g) (hb : base ≤ w.heap.size) : Below base w w' :=
  ⟨h.os, h.tape, h.output, h.size, fun k hk => h.block k (by omega) (fun e => by have := hr k e.symm; omega)⟩
/-- The cells of the first instructions of a list. -/
theorem OwnI.front {w : World} {base g n c : Nat} {L : List Inst} (h : OwnI w base (.slice (some ⟨g, 0, none⟩) n c) L) (m : Nat) (hm : m ≤ L.length) : ((L.take m).flatMap Inst.cells).length = m * 7 ∧ ∀ j u, ((L.take m).flatMap Inst.cells)[j]? = some u → w.cell? ((⟨g, 0, none⟩ : Addr).add j) = some u := by
  refine ⟨by rw [flatI_len, List.length_take]; omega, fun j u hj => ?_⟩
  have e : (L.take m).flatMap Inst.cells ++ (L.drop m).flatMap Inst.cells = L.flatMap Inst.cells := by rw [← List.flatMap_append, List.take_append_drop]
  refine World.ownsRow.cells h rfl j u ?_
  rw [← e, List.getElem?_append_left (List.getElem?_eq_some_iff.1 hj).1]
  exact hj
theorem OwnI.cap {w : World} {base n c : Nat} {a : Option Addr} {L : List Inst} (h : OwnI w base (.slice a n c) L) : n ≤ c ∧ c ≤ 9223372036854775807 := by
  rcases h.2 with ⟨h1, h2⟩ | ⟨g, cap, cur, h1, h2, h3, h4, h5, h6⟩
  · injection h1 with e1 e2 e3
    omega
  · injection h1 with e1 e2 e3
    unfold maxLen at h5
    omega
theorem inst_one {L : List Inst} : ∀ u ∈ L.flatMap Inst.cells, u.oneCell' = true := by
  intro u hu
  obtain ⟨i, -, hi⟩ := List.mem_flatMap.1 hu
  simp [Inst.cells] at hi
  rcases hi with rfl | rfl | rfl | rfl | rfl | rfl | rfl <;> rfl

set_option maxRecDepth 100000 in
set_option maxHeartbeats 8000000 in
theorem LawJoins_any (a b : Re) (w : World) (ca cb : List Value) (hA : a.In w ca) (hB : b.In w cb) (hsz : a.size + b.size ≤ 1048575) :
    Calls Try.prog 6 #[.agg ca.toArray, .agg cb.toArray] w fun e w' => e = .returned (.bool true) ∧ Below w.heap.size w w' := by
  obtain ⟨p, ad, m, cap, rfl⟩ := Re.cells_shape hA
  obtain ⟨q, ae, me, ce, rfl⟩ := Re.cells_shape hB
  have hb0 : Below w.heap.size w ((w.alloc (.cells #[.int .i64 p.op, .int .u64 p.set.a, .int .u64 p.set.b, .int .u64 p.set.c, .int .u64 p.set.d, .int .i64 p.lo, .int .i64 p.hi, .int .i64 p.gr, .slice ad m cap] 28)).alloc (.cells #[.int .i64 q.op, .int .u64 q.set.a, .int .u64 q.set.b, .int .u64 q.set.c, .int .u64 q.set.d, .int .i64 q.lo, .int .i64 q.hi, .int .i64 q.gr, .slice ae me ce] 28)) := ((Below.refl _ w).alloc (Nat.le_refl _) _).alloc (by simp) _
  have HW : Hid (Row ((w.alloc (.cells #[.int .i64 p.op, .int .u64 p.set.a, .int .u64 p.set.b, .int .u64 p.set.c, .int .u64 p.set.d, .int .i64 p.lo, .int .i64 p.hi, .int .i64 p.gr, .slice ad m cap] 28)).alloc (.cells #[.int .i64 q.op, .int .u64 q.set.a, .int .u64 q.set.b, .int .u64 q.set.c, .int .u64 q.set.d, .int .i64 q.lo, .int .i64 q.hi, .int .i64 q.gr, .slice ae me ce] 28)) w.heap.size [.int .i64 p.op, .int .u64 p.set.a, .int .u64 p.set.b, .int .u64 p.set.c, .int .u64 p.set.d, .int .i64 p.lo, .int .i64 p.hi, .int .i64 p.gr, .slice ad m cap] 28 ∧ Row ((w.alloc (.cells #[.int .i64 p.op, .int .u64 p.set.a, .int .u64 p.set.b, .int .u64 p.set.c, .int .u64 p.set.d, .int .i64 p.lo, .int .i64 p.hi, .int .i64 p.gr, .slice ad m cap] 28)).alloc (.cells #[.int .i64 q.op, .int .u64 q.set.a, .int .u64 q.set.b, .int .u64 q.set.c, .int .u64 q.set.d, .int .i64 q.lo, .int .i64 q.hi, .int .i64 q.gr, .slice ae me ce] 28)) (w.heap.size + 1) [.int .i64 q.op, .int .u64 q.set.a, .int .u64 q.set.b, .int .u64 q.set.c, .int .u64 q.set.d, .int .i64 q.lo, .int .i64 q.hi, .int .i64 q.gr, .slice ae me ce] 28 ∧ Below w.heap.size w ((w.alloc (.cells #[.int .i64 p.op, .int .u64 p.set.a, .int .u64 p.set.b, .int .u64 p.set.c, .int .u64 p.set.d, .int .i64 p.lo, .int .i64 p.hi, .int .i64 p.gr, .slice ad m cap] 28)).alloc (.cells #[.int .i64 q.op, .int .u64 q.set.a, .int .u64 q.set.b, .int .u64 q.set.c, .int .u64 q.set.d, .int .i64 q.lo, .int .i64 q.hi, .int .i64 q.gr, .slice ae me ce] 28))) :=
    ⟨(Row.new (cs := [.int .i64 p.op, .int .u64 p.set.a, .int .u64 p.set.b, .int .u64 p.set.c, .int .u64 p.set.d, .int .i64 p.lo, .int .i64 p.hi, .int .i64 p.gr, .slice ad m cap]) rfl).alloc _, Row.new (cs := [.int .i64 q.op, .int .u64 q.set.a, .int .u64 q.set.b, .int .u64 q.set.c, .int .u64 q.set.d, .int .i64 q.lo, .int .i64 q.hi, .int .i64 q.gr, .slice ae me ce]) (by simp), hb0⟩
  have HC := hid (fun (x : World) (hx : Grow (World.drew ((w.alloc (.cells #[.int .i64 p.op, .int .u64 p.set.a, .int .u64 p.set.b, .int .u64 p.set.c, .int .u64 p.set.d, .int .i64 p.lo, .int .i64 p.hi, .int .i64 p.gr, .slice ad m cap] 28)).alloc (.cells #[.int .i64 q.op, .int .u64 q.set.a, .int .u64 q.set.b, .int .u64 q.set.c, .int .u64 q.set.d, .int .i64 q.lo, .int .i64 q.hi, .int .i64 q.gr, .slice ae me ce] 28))) x) => And.intro ((HW.out.1.drew.below hx HW.out.1.drew.lt).c9) ((HW.out.2.1.drew.below hx HW.out.2.1.drew.lt).c9))
  have HBX := hid (fun (x : World) (hx : Grow (World.drew ((w.alloc (.cells #[.int .i64 p.op, .int .u64 p.set.a, .int .u64 p.set.b, .int .u64 p.set.c, .int .u64 p.set.d, .int .i64 p.lo, .int .i64 p.hi, .int .i64 p.gr, .slice ad m cap] 28)).alloc (.cells #[.int .i64 q.op, .int .u64 q.set.a, .int .u64 q.set.b, .int .u64 q.set.c, .int .u64 q.set.d, .int .i64 q.lo, .int .i64 q.hi, .int .i64 q.gr, .slice ae me ce] 28))) x) => (HW.out.2.2.drew.trans (hx.mono HW.out.2.2.size) : Below w.heap.size w x))
  have HS := hid (fun (x : World) (hx : Grow (World.drew ((w.alloc (.cells #[.int .i64 p.op, .int .u64 p.set.a, .int .u64 p.set.b, .int .u64 p.set.c, .int .u64 p.set.d, .int .i64 p.lo, .int .i64 p.hi, .int .i64 p.gr, .slice ad m cap] 28)).alloc (.cells #[.int .i64 q.op, .int .u64 q.set.a, .int .u64 q.set.b, .int .u64 q.set.c, .int .u64 q.set.d, .int .i64 q.lo, .int .i64 q.hi, .int .i64 q.gr, .slice ae me ce] 28))) x) => (show w.heap.size + 2 ≤ x.heap.size by have := Grow.size hx; simp at this; omega))
  have HP1 := hid (fun (x : World) (hx : Below w.heap.size w x) => bare_any w a x _ hA hx (by omega))
  have HP3 := hid (fun (x : World) (hx : Below w.heap.size w x) => bare_any w b x _ hB hx (by omega))
  have HSA := hid (show a.bare.size ≤ 1048576 by have := Re.bare_size a; omega)
  have HSB := hid (show b.bare.size ≤ 1048576 by have := Re.bare_size b; omega)
  have HSC := hid (show (Re.mk (Pay.of 3) [a.bare, b.bare]).size ≤ 1048576 by have h1 := Re.bare_size a; have h2 := Re.bare_size b; rw [Re.size_mk]; simp only [Re.sizes, Re.counts, Re.size] at *; omega)
  have HSR := hid (show (a.bare.rept 0 1).size ≤ 1048576 by have h1 := Re.bare_size a; unfold Re.rept; rw [Re.size_mk]; simp only [Re.sizes, Re.counts, Re.size] at *; omega)
  clear hA hB hb0 hsz
  generalize a.bare = A at *
  generalize b.bare = B at *
  go_enter Try.func6, Try.ntmps6
  go_wp2_with fail
  refine wp_region_inv 4 (Grow) (by kernel_rfl) (by kernel_rfl) (Grow.refl) (fun _ _ _ => Grow.trans) ?_
  simp only [fill, dstOf, Act.put, List.take_succ_cons, List.take_zero, List.getElem?_toArray, List.getElem?_cons_zero, List.getElem?_cons_succ, Option.bind_some, List.setIfInBounds_toArray, List.set_cons_zero, List.set_cons_succ]
  refine Plan.det 1 rfl (Grow.refl) ?_
  apply Exists.intro
  refine ⟨fun vs x hR hF K hK => ?_, ?_⟩
  · have hc := HC.out x hR; clear hF
    go_simp
    exact hK _ _ (Grow.refl _) rfl
  refine Plan.rel 2 rfl (Grow.refl) (fun v y => ∃ cs' : List Value, v = .agg cs'.toArray ∧ A.InS (w.heap.size + 2 ≤ ·) y cs') (fun v y1 y2 hR ⟨cs', h1, h2⟩ => ⟨cs', h1, h2.below hR⟩) (fun vs x hR hF K hK => ?_) ?_
  · have f0 := hF 0 _ _ rfl rfl
    go_simp
    refine (HP1.out x (HBX.out x hR)).mono ?_
    rintro e x1 ⟨cs', rfl, hin, hbe⟩
    exact ⟨_, rfl, hK _ _ hbe ⟨cs', rfl, hin.mono (fun i hi => Nat.le_trans (HS.out x hR) hi)⟩⟩
  refine Plan.det 3 rfl (Grow.refl) ?_
  apply Exists.intro
  refine ⟨fun vs x hR hF K hK => ?_, ?_⟩
  · have hc := HC.out x hR; clear hF
    go_simp
    exact hK _ _ (Grow.refl _) rfl
  refine Plan.rel 4 rfl (Grow.refl) (fun v y => ∃ cs' : List Value, v = .agg cs'.toArray ∧ B.InS (w.heap.size + 2 ≤ ·) y cs') (fun v y1 y2 hR ⟨cs', h1, h2⟩ => ⟨cs', h1, h2.below hR⟩) (fun vs x hR hF K hK => ?_) ?_
  · have f1 := hF 1 _ _ rfl rfl; have f2 := hF 0 _ _ rfl rfl
    go_simp
    refine (HP3.out x (HBX.out x hR)).mono ?_
    rintro e x1 ⟨cs', rfl, hin, hbe⟩
    exact ⟨_, rfl, hK _ _ hbe ⟨cs', rfl, hin.mono (fun i hi => Nat.le_trans (HS.out x hR) hi)⟩⟩
  refine Plan.nil (fun vs x hR hF => ?_)
  have f0 := hF 3 _ _ rfl; have f1 := hF 2 _ _ rfl; have f2 := hF 1 _ _ rfl; have f3 := hF 0 _ _ rfl
  clear hF
  simp only [f0, f2]
  clear f0 f2
  simp only [List.drop_succ_cons, List.drop_zero]
  obtain ⟨cs1, e1, hin1⟩ := f1
  obtain ⟨cs3, e3, hin3⟩ := f3
  obtain ⟨pa, aa, ma, ka, rfl⟩ := Re.cells_shape hin1.self
  obtain ⟨pb, ab, mb, kb, rfl⟩ := Re.cells_shape hin3.self
  simp only [e1, e3]
  have HR := hid hR
  have HI1 := hid hin1
  have HI3 := hid hin3
  have hra := HW.out.1.drew.below HR.out HW.out.1.drew.lt
  have hrb := HW.out.2.1.drew.below HR.out HW.out.2.1.drew.lt
  have HRA := hid hra
  have HRB := hid hrb
  have q0 := hra.c9
  have q1 := hrb.c9
  have z1 := hrb.lt
  have HBx := hid (HBX.out x HR.out)
  clear hR hin1 hin3 e1 e3 HC HBX HS HP1 HP3 hra hrb
  go_upto_region 2 with fail
  have s0 := (HRA.out.set9 (.int .i64 pa.op) (.int .u64 pa.set.a) (.int .u64 pa.set.b) (.int .u64 pa.set.c) (.int .u64 pa.set.d) (.int .i64 pa.lo) (.int .i64 pa.hi) (.int .i64 pa.gr) (.slice aa ma ka)).other9 (B' := w.heap.size + 1) (by omega) (.int .i64 pb.op) (.int .u64 pb.set.a) (.int .u64 pb.set.b) (.int .u64 pb.set.c) (.int .u64 pb.set.d) (.int .i64 pb.lo) (.int .i64 pb.hi) (.int .i64 pb.gr) (.slice ab mb kb)
  have s1 := (HRB.out.other9 (B' := w.heap.size) (by omega) (.int .i64 pa.op) (.int .u64 pa.set.a) (.int .u64 pa.set.b) (.int .u64 pa.set.c) (.int .u64 pa.set.d) (.int .i64 pa.lo) (.int .i64 pa.hi) (.int .i64 pa.gr) (.slice aa ma ka)).set9 (.int .i64 pb.op) (.int .u64 pb.set.a) (.int .u64 pb.set.b) (.int .u64 pb.set.c) (.int .u64 pb.set.d) (.int .i64 pb.lo) (.int .i64 pb.hi) (.int .i64 pb.gr) (.slice ab mb kb)
  have sb := But.set9 (But.set9 (But.refl [w.heap.size, w.heap.size + 1] x) (B := w.heap.size) (.inl (by simp)) (.int .i64 pa.op) (.int .u64 pa.set.a) (.int .u64 pa.set.b) (.int .u64 pa.set.c) (.int .u64 pa.set.d) (.int .i64 pa.lo) (.int .i64 pa.hi) (.int .i64 pa.gr) (.slice aa ma ka)) (B := w.heap.size + 1) (.inl (by simp)) (.int .i64 pb.op) (.int .u64 pb.set.a) (.int .u64 pb.set.b) (.int .u64 pb.set.c) (.int .u64 pb.set.d) (.int .i64 pb.lo) (.int .i64 pb.hi) (.int .i64 pb.gr) (.slice ab mb kb)
  have si := (HI1.out.but sb (fun i hi => by simp; omega)).self
  have sj := (HI3.out.but sb (fun i hi => by simp; omega)).self
  have sw := below9 (below9 HBx.out (Nat.le_refl w.heap.size) (.int .i64 pa.op) (.int .u64 pa.set.a) (.int .u64 pa.set.b) (.int .u64 pa.set.c) (.int .u64 pa.set.d) (.int .i64 pa.lo) (.int .i64 pa.hi) (.int .i64 pa.gr) (.slice aa ma ka)) (by omega : w.heap.size ≤ w.heap.size + 1) (.int .i64 pb.op) (.int .u64 pb.set.a) (.int .u64 pb.set.b) (.int .u64 pb.set.c) (.int .u64 pb.set.d) (.int .i64 pb.lo) (.int .i64 pb.hi) (.int .i64 pb.gr) (.slice ab mb kb)
  generalize ((((((((((((((((((x.setCell ⟨w.heap.size, 0, none⟩ (.int .i64 pa.op)).setCell ⟨w.heap.size, 1, none⟩ (.int .u64 pa.set.a)).setCell ⟨w.heap.size, 2, none⟩ (.int .u64 pa.set.b)).setCell ⟨w.heap.size, 3, none⟩ (.int .u64 pa.set.c)).setCell ⟨w.heap.size, 4, none⟩ (.int .u64 pa.set.d)).setCell ⟨w.heap.size, 5, none⟩ (.int .i64 pa.lo)).setCell ⟨w.heap.size, 6, none⟩ (.int .i64 pa.hi)).setCell ⟨w.heap.size, 7, none⟩ (.int .i64 pa.gr)).setCell ⟨w.heap.size, 8, none⟩ (.slice aa ma ka)).setCell ⟨w.heap.size + 1, 0, none⟩ (.int .i64 pb.op)).setCell ⟨w.heap.size + 1, 1, none⟩ (.int .u64 pb.set.a)).setCell ⟨w.heap.size + 1, 2, none⟩ (.int .u64 pb.set.b)).setCell ⟨w.heap.size + 1, 3, none⟩ (.int .u64 pb.set.c)).setCell ⟨w.heap.size + 1, 4, none⟩ (.int .u64 pb.set.d)).setCell ⟨w.heap.size + 1, 5, none⟩ (.int .i64 pb.lo)).setCell ⟨w.heap.size + 1, 6, none⟩ (.int .i64 pb.hi)).setCell ⟨w.heap.size + 1, 7, none⟩ (.int .i64 pb.gr)).setCell ⟨w.heap.size + 1, 8, none⟩ (.slice ab mb kb)) = y at s0 s1 sb si sj sw ⊢
  have R0 := hid s0
  have R1 := hid s1
  have IA := hid si
  have IB := hid sj
  have HB := hid sw
  clear s0 s1 sb si sj sw q0 q1 z1 HR HI1 HI3 HRA HRB HBx HW
  have HCA := hid (fun (x : World) (cs' : List Value) (hx : A.In x cs') => Compile_any A false x cs' hx HSA.out)
  unfold CPost at HCA
  simp only [Bool.false_and] at HCA
  have HCB := hid (fun (x : World) (cs' : List Value) (hx : B.In x cs') => Compile_any B false x cs' hx HSB.out)
  unfold CPost at HCB
  simp only [Bool.false_and] at HCB
  have HCC := hid (fun (x : World) (cs' : List Value) (hx : (Re.mk (Pay.of 3) [A, B]).In x cs') => Compile_any (Re.mk (Pay.of 3) [A, B]) false x cs' hx HSC.out)
  unfold CPost at HCC
  simp only [Bool.false_and] at HCC
  have HCR := hid (fun (x : World) (cs' : List Value) (hx : (A.rept 0 1).In x cs') => Compile_any (A.rept 0 1) false x cs' hx HSR.out)
  unfold CPost at HCR
  simp only [Bool.false_and] at HCR
  have HLEN : Hid (A.compiled.1.length ≤ 4096 ∧ B.compiled.1.length ≤ 4096 ∧ (Re.mk (Pay.of 3) [A, B]).compiled.1.length ≤ 4096 ∧ (A.rept 0 1).compiled.1.length ≤ 4096) := ⟨Re.compiled_max _, Re.compiled_max _, Re.compiled_max _, Re.compiled_max _⟩
  have HFA : Hid (A.compiled.2 = 0 → 1 ≤ A.compiled.1.length ∧ ∀ k (hk : k < A.compiled.1.length), A.compiled.1[k].small) := fun h => ⟨Re.compiled_pos h, Re.compiled_small h⟩
  have HFB : Hid (B.compiled.2 = 0 → 1 ≤ B.compiled.1.length ∧ ∀ k (hk : k < B.compiled.1.length), B.compiled.1[k].small) := fun h => ⟨Re.compiled_pos h, Re.compiled_small h⟩
  have HFC : Hid (A.compiled.2 = 0 → B.compiled.2 = 0 → (Re.mk (Pay.of 3) [A, B]).compiled.2 = 0 → (Re.mk (Pay.of 3) [A, B]).compiled.1 = A.compiled.1.take (A.compiled.1.length - 1) ++ B.compiled.1.map (Inst.shift (A.compiled.1.length - 1 : Nat))) := Re.compiled_cat
  have HFR : Hid (A.compiled.2 = 0 → (A.rept 0 1).compiled.2 = 0 → (A.rept 0 1).compiled.1 = isplit 1 A.compiled.1.length :: A.compiled.1.map (Inst.shift 1)) := Re.compiled_opt
  generalize A.compiled.1 = LA at HCA HLEN HFA HFB HFC HFR
  generalize A.compiled.2 = eA at HCA HFA HFB HFC HFR
  generalize B.compiled.1 = LB at HCB HLEN HFA HFB HFC HFR
  generalize B.compiled.2 = eB at HCB HFA HFB HFC HFR
  generalize (Re.mk (Pay.of 3) [A, B]).compiled.1 = LC at HCC HLEN HFA HFB HFC HFR
  generalize (Re.mk (Pay.of 3) [A, B]).compiled.2 = eC at HCC HFA HFB HFC HFR
  generalize (A.rept 0 1).compiled.1 = LR at HCR HLEN HFA HFB HFC HFR
  generalize (A.rept 0 1).compiled.2 = eR at HCR HFA HFB HFC HFR
  have q_R0 := R0.out.c9
  have z_R0 := R0.out.lt
  go_wp2_with fail
  refine (HCA.out _ _ IA.out).mono ?_
  rintro e wA ⟨aA, nA, cA, rfl, ho, hb⟩
  clear q_R0 z_R0
  obtain rfl : nA = LA.length := ho.n
  have HO := hid ho
  clear ho
  have R0_1 := hid (R0.out.below hb R0.out.lt)
  have R1_1 := hid (R1.out.below hb R1.out.lt)
  have IA_1 := hid (IA.out.below hb)
  have IB_1 := hid (IB.out.below hb)
  have HB_1 := hid (HB.out.trans (hb.mono HB.out.size))
  clear R0 R1 IA IB HB
  clear hb
  have q_R1 := R1_1.out.c9
  have z_R1 := R1_1.out.lt
  go_wp2_with fail
  clear q_R1 z_R1
  have hb := (Below.refl wA.heap.size wA).alloc (Nat.le_refl _) (.cells #[.slice aA LA.length cA, .bool false] 31)
  have PA := hid (Row.new (w := wA) (B := wA.heap.size) (cs := [.slice aA LA.length cA, .bool false]) (T := 31) rfl)
  have OA := hid (HO.out.below hb)
  clear HO
  have R0_2 := hid (R0_1.out.below hb R0_1.out.lt)
  have R1_2 := hid (R1_1.out.below hb R1_1.out.lt)
  have IA_2 := hid (IA_1.out.below hb)
  have IB_2 := hid (IB_1.out.below hb)
  have HB_2 := hid (HB_1.out.trans (hb.mono HB_1.out.size))
  clear R0_1 R1_1 IA_1 IB_1 HB_1
  clear hb
  refine (HCB.out _ _ IB_2.out).mono ?_
  rintro e wB ⟨aB, nB, cB, rfl, ho, hb⟩
  obtain rfl : nB = LB.length := ho.n
  have HO := hid ho
  clear ho
  have R0_3 := hid (R0_2.out.below hb R0_2.out.lt)
  have R1_3 := hid (R1_2.out.below hb R1_2.out.lt)
  have IA_3 := hid (IA_2.out.below hb)
  have IB_3 := hid (IB_2.out.below hb)
  have HB_3 := hid (HB_2.out.trans (hb.mono HB_2.out.size))
  have PA_3 := hid (PA.out.below hb PA.out.lt)
  have OA_3 := hid (OA.out.below hb)
  clear R0_2 R1_2 IA_2 IB_2 HB_2 PA OA
  clear hb
  have q_R0 := R0_3.out.c9
  have z_R0 := R0_3.out.lt
  have q_R1 := R1_3.out.c9
  have z_R1 := R1_3.out.lt
  go_wp2_with fail
  clear q_R0 z_R0 q_R1 z_R1
  have hb := (Below.refl wB.heap.size wB).alloc (Nat.le_refl _) (.cells #[.slice aB LB.length cB, .bool false] 31)
  have PB := hid (Row.new (w := wB) (B := wB.heap.size) (cs := [.slice aB LB.length cB, .bool false]) (T := 31) rfl)
  have OB := hid (HO.out.below hb)
  clear HO
  have R0_4 := hid (R0_3.out.below hb R0_3.out.lt)
  have R1_4 := hid (R1_3.out.below hb R1_3.out.lt)
  have IA_4 := hid (IA_3.out.below hb)
  have IB_4 := hid (IB_3.out.below hb)
  have HB_4 := hid (HB_3.out.trans (hb.mono HB_3.out.size))
  have PA_4 := hid (PA_3.out.below hb PA_3.out.lt)
  have OA_4 := hid (OA_3.out.below hb)
  clear R0_3 R1_3 IA_3 IB_3 HB_3 PA_3 OA_3
  clear hb
  have hb := (Below.refl _ (wB.alloc (.cells #[.slice aB LB.length cB, .bool false] 31))).alloc (Nat.le_refl _) (.cells #[.int .i64 pa.op, .int .u64 pa.set.a, .int .u64 pa.set.b, .int .u64 pa.set.c, .int .u64 pa.set.d, .int .i64 pa.lo, .int .i64 pa.hi, .int .i64 pa.gr, .slice aa ma ka, .int .i64 pb.op, .int .u64 pb.set.a, .int .u64 pb.set.b, .int .u64 pb.set.c, .int .u64 pb.set.d, .int .i64 pb.lo, .int .i64 pb.hi, .int .i64 pb.gr, .slice ab mb kb] 28)
  have RC := hid (Row.new (w := (wB.alloc (.cells #[.slice aB LB.length cB, .bool false] 31))) (B := wB.heap.size + 1) (cs := [.int .i64 pa.op, .int .u64 pa.set.a, .int .u64 pa.set.b, .int .u64 pa.set.c, .int .u64 pa.set.d, .int .i64 pa.lo, .int .i64 pa.hi, .int .i64 pa.gr, .slice aa ma ka] ++ [.int .i64 pb.op, .int .u64 pb.set.a, .int .u64 pb.set.b, .int .u64 pb.set.c, .int .u64 pb.set.d, .int .i64 pb.lo, .int .i64 pb.hi, .int .i64 pb.gr, .slice ab mb kb]) (T := 28) (by simp))
  have R0_5 := hid (R0_4.out.below hb R0_4.out.lt)
  have R1_5 := hid (R1_4.out.below hb R1_4.out.lt)
  have IA_5 := hid (IA_4.out.below hb)
  have IB_5 := hid (IB_4.out.below hb)
  have HB_5 := hid (HB_4.out.trans (hb.mono HB_4.out.size))
  have PA_5 := hid (PA_4.out.below hb PA_4.out.lt)
  have OA_5 := hid (OA_4.out.below hb)
  have PB_5 := hid (PB.out.below hb PB.out.lt)
  have OB_5 := hid (OB.out.below hb)
  clear R0_4 R1_4 IA_4 IB_4 HB_4 PA_4 OA_4 PB OB
  clear hb
  refine (node9_any 3 _ _ _ _).mono ?_
  rintro e wn ⟨rfl, hb⟩
  have R0_6 := hid (R0_5.out.below hb R0_5.out.lt)
  have R1_6 := hid (R1_5.out.below hb R1_5.out.lt)
  have IA_6 := hid (IA_5.out.below hb)
  have IB_6 := hid (IB_5.out.below hb)
  have HB_6 := hid (HB_5.out.trans (hb.mono HB_5.out.size))
  have PA_6 := hid (PA_5.out.below hb PA_5.out.lt)
  have OA_6 := hid (OA_5.out.below hb)
  have PB_6 := hid (PB_5.out.below hb PB_5.out.lt)
  have OB_6 := hid (OB_5.out.below hb)
  have RC_6 := hid (RC.out.below hb RC.out.lt)
  clear R0_5 R1_5 IA_5 IB_5 HB_5 PA_5 OA_5 PB_5 OB_5 RC
  clear hb
  have IC : Hid ((Re.mk (Pay.of 3) [A, B]).In wn [.int .i64 3, .int .u64 0, .int .u64 0, .int .u64 0, .int .u64 0, .int .i64 0, .int .i64 0, .int .i64 0, .slice (some ⟨wB.heap.size + 1, 0, none⟩) 2 2]) := node2_in (c1 := [.int .i64 pa.op, .int .u64 pa.set.a, .int .u64 pa.set.b, .int .u64 pa.set.c, .int .u64 pa.set.d, .int .i64 pa.lo, .int .i64 pa.hi, .int .i64 pa.gr, .slice aa ma ka]) (c2 := [.int .i64 pb.op, .int .u64 pb.set.a, .int .u64 pb.set.b, .int .u64 pb.set.c, .int .u64 pb.set.d, .int .i64 pb.lo, .int .i64 pb.hi, .int .i64 pb.gr, .slice ab mb kb]) (Pay.of_wf (I64_of (by omega))) RC_6.out IA_6.out IB_6.out rfl
  clear RC_6 IB_6
  go_wp2_with fail
  refine (HCC.out _ _ IC.out).mono ?_
  rintro e wC ⟨aC, nC, cC, rfl, ho, hb⟩
  obtain rfl : nC = LC.length := ho.n
  have HO := hid ho
  clear ho IC
  have R0_7 := hid (R0_6.out.below hb R0_6.out.lt)
  have R1_7 := hid (R1_6.out.below hb R1_6.out.lt)
  have IA_7 := hid (IA_6.out.below hb)
  have HB_7 := hid (HB_6.out.trans (hb.mono HB_6.out.size))
  have PA_7 := hid (PA_6.out.below hb PA_6.out.lt)
  have OA_7 := hid (OA_6.out.below hb)
  have PB_7 := hid (PB_6.out.below hb PB_6.out.lt)
  have OB_7 := hid (OB_6.out.below hb)
  clear R0_6 R1_6 IA_6 HB_6 PA_6 OA_6 PB_6 OB_6
  clear hb
  have q_R0 := R0_7.out.c9
  have z_R0 := R0_7.out.lt
  go_wp2_with fail
  clear q_R0 z_R0
  have hb := (Below.refl wC.heap.size wC).alloc (Nat.le_refl _) (.cells #[.slice aC LC.length cC, .bool false] 31)
  have PC := hid (Row.new (w := wC) (B := wC.heap.size) (cs := [.slice aC LC.length cC, .bool false]) (T := 31) rfl)
  have OC := hid (HO.out.below hb)
  clear HO
  have R0_8 := hid (R0_7.out.below hb R0_7.out.lt)
  have R1_8 := hid (R1_7.out.below hb R1_7.out.lt)
  have IA_8 := hid (IA_7.out.below hb)
  have HB_8 := hid (HB_7.out.trans (hb.mono HB_7.out.size))
  have PA_8 := hid (PA_7.out.below hb PA_7.out.lt)
  have OA_8 := hid (OA_7.out.below hb)
  have PB_8 := hid (PB_7.out.below hb PB_7.out.lt)
  have OB_8 := hid (OB_7.out.below hb)
  clear R0_7 R1_7 IA_7 HB_7 PA_7 OA_7 PB_7 OB_7
  clear hb
  have hb := (Below.refl _ (wC.alloc (.cells #[.slice aC LC.length cC, .bool false] 31))).alloc (Nat.le_refl _) (.cells #[.int .i64 pa.op, .int .u64 pa.set.a, .int .u64 pa.set.b, .int .u64 pa.set.c, .int .u64 pa.set.d, .int .i64 pa.lo, .int .i64 pa.hi, .int .i64 pa.gr, .slice aa ma ka] 28)
  have RC := hid (Row.new (w := (wC.alloc (.cells #[.slice aC LC.length cC, .bool false] 31))) (B := wC.heap.size + 1) (cs := [.int .i64 pa.op, .int .u64 pa.set.a, .int .u64 pa.set.b, .int .u64 pa.set.c, .int .u64 pa.set.d, .int .i64 pa.lo, .int .i64 pa.hi, .int .i64 pa.gr, .slice aa ma ka]) (T := 28) (by simp))
  have R0_9 := hid (R0_8.out.below hb R0_8.out.lt)
  have R1_9 := hid (R1_8.out.below hb R1_8.out.lt)
  have IA_9 := hid (IA_8.out.below hb)
  have HB_9 := hid (HB_8.out.trans (hb.mono HB_8.out.size))
  have PA_9 := hid (PA_8.out.below hb PA_8.out.lt)
  have OA_9 := hid (OA_8.out.below hb)
  have PB_9 := hid (PB_8.out.below hb PB_8.out.lt)
  have OB_9 := hid (OB_8.out.below hb)
  have PC_9 := hid (PC.out.below hb PC.out.lt)
  have OC_9 := hid (OC.out.below hb)
  clear R0_8 R1_8 IA_8 HB_8 PA_8 OA_8 PB_8 OB_8 PC OC
  clear hb
  have IR : Hid ((A.rept 0 1).In _ [.int .i64 5, .int .u64 0, .int .u64 0, .int .u64 0, .int .u64 0, .int .i64 0, .int .i64 1, .int .i64 0, .slice (some ⟨wC.heap.size + 1, 0, none⟩) 1 1]) := node1_in (Pay.ofRep_wf (I64_of (by omega)) (I64_of (by omega))) RC.out IA_9.out rfl
  clear RC IA_9
  refine (HCR.out _ _ IR.out).mono ?_
  rintro e wR ⟨aR, nR, cR, rfl, ho, hb⟩
  obtain rfl : nR = LR.length := ho.n
  have HO := hid ho
  clear ho IR
  clear R0_9 R1_9
  have HB_10 := hid (HB_9.out.trans (hb.mono HB_9.out.size))
  have PA_10 := hid (PA_9.out.below hb PA_9.out.lt)
  have OA_10 := hid (OA_9.out.below hb)
  have PB_10 := hid (PB_9.out.below hb PB_9.out.lt)
  have OB_10 := hid (OB_9.out.below hb)
  have PC_10 := hid (PC_9.out.below hb PC_9.out.lt)
  have OC_10 := hid (OC_9.out.below hb)
  clear HB_9 PA_9 OA_9 PB_9 OB_9 PC_9 OC_9
  clear hb
  rcases Decidable.em (eA = 0) with hA | hA
  · rcases Decidable.em (eB = 0) with hB | hB
    · skip
      subst hA
      subst hB
      have hl := (HFA.out rfl).1
      have hl2 := (HFB.out rfl).1
      have d0 : ((LA.length : Int) == 0) = false := by rw [beq_eq_false_iff_ne]; omega
      obtain ⟨-, gA, rfl, -⟩ := (OA_10.out).elem 0 LA[0] (List.getElem?_eq_getElem (by omega))
      obtain ⟨-, gB, rfl, -⟩ := (OB_10.out).elem 0 LB[0] (List.getElem?_eq_getElem (by omega))
      have hcA := OA_10.out.cap
      have hcB := OB_10.out.cap
      have hln := HLEN.out
      have q_PA := PA_10.out.c2
      have z_PA := PA_10.out.lt
      go_wp2_with (at_builtin; refine (fun (h : True → _) => h trivial) ?_)
      intro _
      clear q_PA z_PA
      have hb := (Below.refl wR.heap.size wR).alloc (Nat.le_refl _) (.cells #[.slice aR LR.length cR, .bool false] 31)
      have PR := hid (Row.new (w := wR) (B := wR.heap.size) (cs := [.slice aR LR.length cR, .bool false]) (T := 31) rfl)
      have OR := hid (HO.out.below hb)
      clear HO
      have HB_13 := hid (HB_10.out.trans (hb.mono HB_10.out.size))
      have PA_13 := hid (PA_10.out.below hb PA_10.out.lt)
      have OA_13 := hid (OA_10.out.below hb)
      have PB_13 := hid (PB_10.out.below hb PB_10.out.lt)
      have OB_13 := hid (OB_10.out.below hb)
      have PC_13 := hid (PC_10.out.below hb PC_10.out.lt)
      have OC_13 := hid (OC_10.out.below hb)
      clear HB_10 PA_10 OA_10 PB_10 OB_10 PC_10 OC_10
      clear hb
      generalize (wR.alloc (.cells #[.slice aR LR.length cR, .bool false] 31)) = y5 at HB_13 PA_13 OA_13 PB_13 OB_13 PC_13 OC_13 PR OR ⊢
      have HY0 : Hid (Below y5.heap.size y5 y5) := Below.refl _ _
      obtain ⟨hlA4, hlB4, hlC4, hlR4⟩ := HLEN.out
      obtain ⟨i0, hi, hz0, hz1, hz2⟩ := info_parts info_inst
      have q_PA := (PA_13.out.below HY0.out PA_13.out.lt).c2
      have z_PA := (PA_13.out.below HY0.out PA_13.out.lt).lt
      go_wp2_with (at_builtin; refine wpList_append_own _ rfl _ _ 29 rfl y5.heap.size 39 i0 (.agg #[.int .i64 0, .int .u64 0, .int .u64 0, .int .u64 0, .int .u64 0, .int .i64 0, .int .i64 0]) 7 56 Try.underlying29 hi hz0 hz1 hz2 rfl (by decide) (.slice none 0 0) 0 [] rfl (World.ownsRow_nil _ _ _ _) _ _ _ ((LA.take (LA.length - 1)).flatMap Inst.cells) rfl ?c1 ?c2 ?c3 ?c4 ?c5 ?c6 ?_)
      case c1 => exact (OA_13.out.front _ (by omega)).1
      case c2 => exact (OA_13.out.front _ (by omega)).2
      case c3 => exact inst_one
      case c4 => unfold maxLen; omega
      case c5 => omega
      case c6 => exact Nat.le_refl _
      intro v1 w1 ho1 hg1 _
      obtain ⟨a1, c1, rfl⟩ := ownsRow_shape ho1
      have HY1 := hid (grown_below hg1 (fun g hg => by cases hg) (Nat.le_refl y5.heap.size))
      have OW1 : Hid (OwnI w1 y5.heap.size (.slice a1 (LA.length - 1) c1) (LA.take (LA.length - 1))) := OwnI.fresh ho1 (by rw [List.length_take]; omega)
      clear ho1 hg1 hi hz0 hz1 hz2
      clear i0
      clear q_PA z_PA
      have HSB := hid (fun (x : World) (hx : Below y5.heap.size y5 x) => shifted_any x _ _ LB (LA.length - 1) (OB_13.out.below hx) (by omega) (by omega) (HFB.out (by simp)).2)
      have HSA2 := hid (fun (x : World) (hx : Below y5.heap.size y5 x) => shifted_any x _ _ LA 1 (OA_13.out.below hx) (by omega) (by omega) (HFA.out (by simp)).2)
      have hm1 : (LB.map (Inst.shift (LA.length - 1 : Nat))).length = LB.length := List.length_map _
      have hm2 : (LA.map (Inst.shift (1 : Nat))).length = LA.length := List.length_map _
      have HFC2 := hid (HFC.out (by simp) (by simp))
      have HFR2 : Hid (eR = 0 → LR = isplit 1 LA.length :: LA.map (Inst.shift (1 : Nat)))   := HFR.out (by simp)
      have hcast : ((LA.length - 1 : Nat) : Int) = (LA.length : Int) - 1 := by omega
      generalize LB.map (Inst.shift (LA.length - 1 : Nat)) = M at HSB hm1 HFC2
      generalize LA.map (Inst.shift (1 : Nat)) = M2 at HSA2 hm2 HFR2
      rw [hcast] at HSB
      have HM1 := hid hm1
      have HM2 := hid hm2
      have hm3 : 1 ≤ M.length ∧ M.length ≤ 4096 := by omega
      have hm4 : 1 ≤ M2.length ∧ M2.length ≤ 4096 := by omega
      clear hcast hm1 hm2 HFC HFR
      have q_PA := (PA_13.out.below HY1.out PA_13.out.lt).c2
      have z_PA := (PA_13.out.below HY1.out PA_13.out.lt).lt
      have q_PB := (PB_13.out.below HY1.out PB_13.out.lt).c2
      have z_PB := (PB_13.out.below HY1.out PB_13.out.lt).lt
      go_wp2_with fail
      refine (HSB.out _ HY1.out).mono ?_
      rintro e w2 ⟨a2, n2, c2, rfl, ho2, hb2⟩
      obtain rfl : n2 = M.length := ho2.n
      obtain ⟨-, g2, rfl, -⟩ := ho2.elem 0 M[0] (List.getElem?_eq_getElem (by omega))
      have HY2 : Hid (Below y5.heap.size y5 w2) := HY1.out.trans (hb2.mono HY1.out.size)
      have OW2 := hid (OW1.out.below hb2)
      have OM2 := hid ho2
      clear ho2 hb2 OW1 HSB
      clear q_PA z_PA q_PB z_PB
      obtain ⟨i0, hi, hz0, hz1, hz2⟩ := info_parts info_inst
      go_wp2_with (at_builtin; refine wpList_append_own _ rfl _ _ 29 rfl y5.heap.size 39 i0 (.agg #[.int .i64 0, .int .u64 0, .int .u64 0, .int .u64 0, .int .u64 0, .int .i64 0, .int .i64 0]) 7 56 Try.underlying29 hi hz0 hz1 hz2 rfl (by decide) (.slice a1 (LA.length - 1) c1) (LA.length - 1) ((LA.take (LA.length - 1)).flatMap Inst.cells) rfl (by exact OW2.out.row) _ _ _ (M.flatMap Inst.cells) rfl ?c1 ?c2 ?c3 ?c4 ?c5 ?c6 ?_)
      case c1 => exact flatI_len M
      case c2 => exact (fun j u hj => World.ownsRow.cells OM2.out rfl j u hj)
      case c3 => exact inst_one
      case c4 => unfold maxLen; omega
      case c5 => omega
      case c6 => exact HY2.out.size
      intro v3 w3 ho3 hg3 _
      obtain ⟨a3, c3, rfl⟩ := ownsRow_shape ho3
      have HY3 := hid (HY2.out.trans (grown_below hg3 (fun g hg => (OW2.out.lt g hg).1) HY2.out.size))
      have OW3 : Hid (OwnI w3 y5.heap.size (.slice a3 (LA.length - 1 + M.length) c3) (LA.take (LA.length - 1) ++ M)) := OwnI.joined ho3 (by rw [List.length_take]; omega)
      clear ho3 hg3 hi hz0 hz1 hz2 OW2 OM2
      clear i0
      obtain ⟨i0, hi, hz0, hz1, hz2⟩ := info_parts info_inst
      go_wp2_with (at_builtin; refine wpList_append_own _ rfl _ _ 29 rfl w3.heap.size 39 i0 (.agg #[.int .i64 0, .int .u64 0, .int .u64 0, .int .u64 0, .int .u64 0, .int .i64 0, .int .i64 0]) 7 56 Try.underlying29 hi hz0 hz1 hz2 rfl (by decide) (.slice none 0 0) 0 [] rfl (World.ownsRow_nil _ _ _ _) _ _ _ ([isplit 1 LA.length].flatMap Inst.cells) rfl ?c1 ?c2 ?c3 ?c4 ?c5 ?c6 ?_)
      case c1 => rfl
      case c2 =>
        intro j u hj
        rw [Addr.add_lit, Nat.zero_add]
        exact (Row.new (w := w3) (cs := [.int .i64 2, .int .u64 0, .int .u64 0, .int .u64 0, .int .u64 0, .int .i64 1, .int .i64 LA.length]) (T := 39) rfl).cell j ▸ hj
      case c3 => exact inst_one
      case c4 => unfold maxLen; omega
      case c5 => omega
      case c6 => simp
      intro v4 w4 ho4 hg4 _
      obtain ⟨a4, c4, rfl⟩ := ownsRow_shape ho4
      have hal := (Below.refl w3.heap.size w3).alloc (Nat.le_refl _) (.cells #[.int .i64 2, .int .u64 0, .int .u64 0, .int .u64 0, .int .u64 0, .int .i64 1, .int .i64 LA.length] 39)
      have HV4 : Hid (Below w3.heap.size w3 w4) := hal.trans (grown_below hg4 (fun g hg => by cases hg) hal.size)
      have OX4 : Hid (OwnI w4 w3.heap.size (.slice a4 1 c4) [isplit 1 LA.length]) := OwnI.fresh ho4 rfl
      have HY4 : Hid (Below y5.heap.size y5 w4) := HY3.out.trans (HV4.out.mono HY3.out.size)
      clear ho4 hg4 hal hi hz0 hz1 hz2
      clear i0
      have q_PA := (PA_13.out.below HY4.out PA_13.out.lt).c2
      have z_PA := (PA_13.out.below HY4.out PA_13.out.lt).lt
      go_wp2_with fail
      refine (HSA2.out _ HY4.out).mono ?_
      rintro e w5 ⟨a5, n5, c5, rfl, ho5, hb5⟩
      obtain rfl : n5 = M2.length := ho5.n
      obtain ⟨-, g5, rfl, -⟩ := ho5.elem 0 M2[0] (List.getElem?_eq_getElem (by omega))
      have HV5 : Hid (Below w3.heap.size w3 w5) := HV4.out.trans (hb5.mono HV4.out.size)
      have OX5 := hid (OX4.out.below hb5)
      have OM5 := hid ho5
      clear ho5 hb5 OX4 HSA2 HV4
      clear q_PA z_PA
      obtain ⟨i0, hi, hz0, hz1, hz2⟩ := info_parts info_inst
      go_wp2_with (at_builtin; refine wpList_append_own _ rfl _ _ 29 rfl w3.heap.size 39 i0 (.agg #[.int .i64 0, .int .u64 0, .int .u64 0, .int .u64 0, .int .u64 0, .int .i64 0, .int .i64 0]) 7 56 Try.underlying29 hi hz0 hz1 hz2 rfl (by decide) (.slice a4 1 c4) 1 ([isplit 1 LA.length].flatMap Inst.cells) rfl (by exact OX5.out.row) _ _ _ (M2.flatMap Inst.cells) rfl ?c1 ?c2 ?c3 ?c4 ?c5 ?c6 ?_)
      case c1 => exact flatI_len M2
      case c2 => exact (fun j u hj => World.ownsRow.cells OM5.out rfl j u hj)
      case c3 => exact inst_one
      case c4 => unfold maxLen; omega
      case c5 => omega
      case c6 => exact HV5.out.size
      intro v6 w6 ho6 hg6 _
      obtain ⟨a6, c6, rfl⟩ := ownsRow_shape ho6
      have HV6 := hid (HV5.out.trans (grown_below hg6 (fun g hg => (OX5.out.lt g hg).1) HV5.out.size))
      have OX6 : Hid (OwnI w6 w3.heap.size (.slice a6 (1 + M2.length) c6) ([isplit 1 LA.length] ++ M2)) := OwnI.joined ho6 rfl
      have HY6 : Hid (Below y5.heap.size y5 w6) := HY3.out.trans (HV6.out.mono HY3.out.size)
      have OW6 : Hid (OwnI w6 y5.heap.size (.slice a3 (LA.length - 1 + M.length) c3) (LA.take (LA.length - 1) ++ M)) := OW3.out.below HV6.out
      clear ho6 hg6 hi hz0 hz1 hz2 OW3 HV5 OX5 OM5
      clear i0
      have HB6 : Hid (Below w.heap.size w w6) := HB_13.out.trans (HY6.out.mono HB_13.out.size)
      have hl6 := hlC4
      rcases Decidable.em (eC = 0) with hC | hC
      · rcases Decidable.em (eR = 0) with hR | hR
        · skip
          have dC : (eC != 0) = false := by simpa using hC
          have dR : (eR != 0) = false := by simpa using hR
          have HQC := hid (SameInsts_any w6 _ _ _ _ _ (OwnI.app (OC_13.out.below HY6.out) (HFC2.out hC)) (OW6.out) (by rw [List.length_append, List.length_take]; omega))
          have q_PC := (PC_13.out.below HY6.out PC_13.out.lt).c2
          have z_PC := (PC_13.out.below HY6.out PC_13.out.lt).lt
          have q_PR := (PR.out.below HY6.out PR.out.lt).c2
          have z_PR := (PR.out.below HY6.out PR.out.lt).lt
          clear hC
          go_wp2_with fail
          refine HQC.out.mono ?_
          rintro e w7 ⟨rfl, hb7⟩
          have HV7 := hid hb7
          have HY7 : Hid (Below y5.heap.size y5 w7) := HY6.out.trans (hb7.mono HY6.out.size)
          have HB7 : Hid (Below w.heap.size w w7) := HB6.out.trans (hb7.mono HB6.out.size)
          clear hb7 HQC
          clear q_PC z_PC q_PR z_PR
          have HQR := hid (SameInsts_any w7 _ _ _ _ _ (OwnI.app (OR.out.below HY7.out) (HFR2.out hR)) (OX6.out.below HV7.out) (by simp; omega))
          have q_PC := (PC_13.out.below HY7.out PC_13.out.lt).c2
          have z_PC := (PC_13.out.below HY7.out PC_13.out.lt).lt
          have q_PR := (PR.out.below HY7.out PR.out.lt).c2
          have z_PR := (PR.out.below HY7.out PR.out.lt).lt
          clear hR
          go_wp2_with fail
          refine HQR.out.mono ?_
          rintro e w8 ⟨rfl, hb8⟩
          have HB8 : Hid (Below w.heap.size w w8) := HB7.out.trans (hb8.mono HB7.out.size)
          clear hb8 HQR
          clear q_PC z_PC q_PR z_PR
          go_wp2_with fail
          refine (awake_any _).mono ?_
          rintro e wz ⟨rfl, hbz⟩
          have HZ : Hid (Below w.heap.size w wz) := HB8.out.trans (hbz.mono HB8.out.size)
          clear hbz
          go_wp2_with fail
          go_ret
          exact ⟨rfl, HZ.out⟩
        · skip
          have dC : (eC != 0) = false := by simpa using hC
          have dR : (eR != 0) = true := by simpa using hR
          have HQC := hid (SameInsts_any w6 _ _ _ _ _ (OwnI.app (OC_13.out.below HY6.out) (HFC2.out hC)) (OW6.out) (by rw [List.length_append, List.length_take]; omega))
          have q_PC := (PC_13.out.below HY6.out PC_13.out.lt).c2
          have z_PC := (PC_13.out.below HY6.out PC_13.out.lt).lt
          have q_PR := (PR.out.below HY6.out PR.out.lt).c2
          have z_PR := (PR.out.below HY6.out PR.out.lt).lt
          clear hC
          go_wp2_with fail
          refine HQC.out.mono ?_
          rintro e w7 ⟨rfl, hb7⟩
          have HV7 := hid hb7
          have HY7 : Hid (Below y5.heap.size y5 w7) := HY6.out.trans (hb7.mono HY6.out.size)
          have HB7 : Hid (Below w.heap.size w w7) := HB6.out.trans (hb7.mono HB6.out.size)
          clear hb7 HQC
          clear q_PC z_PC q_PR z_PR
          have q_PC := (PC_13.out.below HY7.out PC_13.out.lt).c2
          have z_PC := (PC_13.out.below HY7.out PC_13.out.lt).lt
          have q_PR := (PR.out.below HY7.out PR.out.lt).c2
          have z_PR := (PR.out.below HY7.out PR.out.lt).lt
          clear hR
          go_wp2_with fail
          refine (awake_any _).mono ?_
          rintro e wz ⟨rfl, hbz⟩
          have HZ : Hid (Below w.heap.size w wz) := HB7.out.trans (hbz.mono HB7.out.size)
          clear hbz
          go_wp2_with fail
          go_ret
          exact ⟨rfl, HZ.out⟩
      · rcases Decidable.em (eR = 0) with hR | hR
        · skip
          have dC : (eC != 0) = true := by simpa using hC
          have dR : (eR != 0) = false := by simpa using hR
          have HQR := hid (SameInsts_any w6 _ _ _ _ _ (OwnI.app (OR.out.below HY6.out) (HFR2.out hR)) (OX6.out) (by simp; omega))
          have q_PC := (PC_13.out.below HY6.out PC_13.out.lt).c2
          have z_PC := (PC_13.out.below HY6.out PC_13.out.lt).lt
          have q_PR := (PR.out.below HY6.out PR.out.lt).c2
          have z_PR := (PR.out.below HY6.out PR.out.lt).lt
          clear hR hC
          go_wp2_with fail
          refine HQR.out.mono ?_
          rintro e w8 ⟨rfl, hb8⟩
          have HB8 : Hid (Below w.heap.size w w8) := HB6.out.trans (hb8.mono HB6.out.size)
          clear hb8 HQR
          clear q_PC z_PC q_PR z_PR
          go_wp2_with fail
          refine (awake_any _).mono ?_
          rintro e wz ⟨rfl, hbz⟩
          have HZ : Hid (Below w.heap.size w wz) := HB8.out.trans (hbz.mono HB8.out.size)
          clear hbz
          go_wp2_with fail
          go_ret
          exact ⟨rfl, HZ.out⟩
        · skip
          have dC : (eC != 0) = true := by simpa using hC
          have dR : (eR != 0) = true := by simpa using hR
          have q_PC := (PC_13.out.below HY6.out PC_13.out.lt).c2
          have z_PC := (PC_13.out.below HY6.out PC_13.out.lt).lt
          have q_PR := (PR.out.below HY6.out PR.out.lt).c2
          have z_PR := (PR.out.below HY6.out PR.out.lt).lt
          clear hR hC
          go_wp2_with fail
          refine (awake_any _).mono ?_
          rintro e wz ⟨rfl, hbz⟩
          have HZ : Hid (Below w.heap.size w wz) := HB6.out.trans (hbz.mono HB6.out.size)
          clear hbz
          go_wp2_with fail
          go_ret
          exact ⟨rfl, HZ.out⟩
    · skip
      subst hA
      have dB : (eB != 0) = true := by simpa using hB
      have hlA : 0 < LA.length := by have := (HFA.out rfl).1; omega
      have q_PA := PA_10.out.c2
      have z_PA := PA_10.out.lt
      go_wp2_with fail
      clear q_PA z_PA
      have hb := (Below.refl wR.heap.size wR).alloc (Nat.le_refl _) (.cells #[.slice aR LR.length cR, .bool false] 31)
      have PR := hid (Row.new (w := wR) (B := wR.heap.size) (cs := [.slice aR LR.length cR, .bool false]) (T := 31) rfl)
      have OR := hid (HO.out.below hb)
      clear HO
      have HB_12 := hid (HB_10.out.trans (hb.mono HB_10.out.size))
      have PA_12 := hid (PA_10.out.below hb PA_10.out.lt)
      have OA_12 := hid (OA_10.out.below hb)
      have PB_12 := hid (PB_10.out.below hb PB_10.out.lt)
      have OB_12 := hid (OB_10.out.below hb)
      have PC_12 := hid (PC_10.out.below hb PC_10.out.lt)
      have OC_12 := hid (OC_10.out.below hb)
      clear HB_10 PA_10 OA_10 PB_10 OB_10 PC_10 OC_10
      clear hb
      refine (awake_any _).mono ?_
      rintro e wz ⟨rfl, hbz⟩
      have HZ : Hid (Below w.heap.size w wz) := HB_12.out.trans (hbz.mono HB_12.out.size)
      clear hbz
      go_wp2_with fail
      go_ret
      exact ⟨rfl, HZ.out⟩
  · skip
    have dA : (eA != 0) = true := by simpa using hA
    have q_PA := PA_10.out.c2
    have z_PA := PA_10.out.lt
    go_wp2_with fail
    clear q_PA z_PA
    have hb := (Below.refl wR.heap.size wR).alloc (Nat.le_refl _) (.cells #[.slice aR LR.length cR, .bool false] 31)
    have PR := hid (Row.new (w := wR) (B := wR.heap.size) (cs := [.slice aR LR.length cR, .bool false]) (T := 31) rfl)
    have OR := hid (HO.out.below hb)
    clear HO
    have HB_11 := hid (HB_10.out.trans (hb.mono HB_10.out.size))
    have PA_11 := hid (PA_10.out.below hb PA_10.out.lt)
    have OA_11 := hid (OA_10.out.below hb)
    have PB_11 := hid (PB_10.out.below hb PB_10.out.lt)
    have OB_11 := hid (OB_10.out.below hb)
    have PC_11 := hid (PC_10.out.below hb PC_10.out.lt)
    have OC_11 := hid (OC_10.out.below hb)
    clear HB_10 PA_10 OA_10 PB_10 OB_10 PC_10 OC_10
    clear hb
    refine (awake_any _).mono ?_
    rintro e wz ⟨rfl, hbz⟩
    have HZ : Hid (Below w.heap.size w wz) := HB_11.out.trans (hbz.mono HB_11.out.size)
    clear hbz
    go_wp2_with fail
    go_ret
    exact ⟨rfl, HZ.out⟩
end Go.Proofs.Ytnlaffhkcdfkjaa
