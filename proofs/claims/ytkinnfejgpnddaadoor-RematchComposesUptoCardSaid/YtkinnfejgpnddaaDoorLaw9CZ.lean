/- The laws of layer 9: RematchComposes. -/
import Derived.Test.YtkinnfejgpnddaaDoorK19
import Derived.Test.YtkinnfejgpnddaaDoorLaw9OZ
import Derived.Test.YtkinnfejgpnddaaDoorLaw9DZ
import Derived.Test.YtkinnfejgpnddaaDoorK23
import Derived.Test.YtkinnfejgpnddaaDoorK22
import Derived.Test.YtkinnfejgpnddaaDoorK08
namespace Go.Proofs.YtkinnfejgpnddaaDoor
open Go.RowKit
attribute [local go_sem] gives givesUpon

/-- The parameters of the law, in memory. -/
def TwoAt (w : World) (a b : Re) (csa csb cx : List Value) (x : World) : Prop :=
  (Row x w.heap.size csa 28 ∧ Row x (w.heap.size + 1) csb 28 ∧ Row x (w.heap.size + 2) cx 30) ∧ Below w.heap.size w x ∧ (a.In x csa ∧ b.In x csb) ∧ Tabs9 x
theorem TwoAt.later {w : World} {a b : Re} {csa csb cx : List Value} {x y : World} (h : TwoAt w a b csa csb cx x) (hb : Below x.heap.size x y) : TwoAt w a b csa csb cx y :=
  ⟨⟨h.1.1.below hb h.1.1.lt, h.1.2.1.below hb h.1.2.1.lt, h.1.2.2.below hb h.1.2.2.lt⟩, h.2.1.trans (hb.mono h.2.1.size), ⟨h.2.2.1.1.below hb, h.2.2.1.2.below hb⟩, h.2.2.2.on hb⟩
/-- The parameters of the law, and what the searches handed out. -/
def FourAt (w : World) (a b : Re) (csa csb cx : List Value) (v1 v2 v3 v4 : Value) (l m al ct : List Parse) (x : World) : Prop :=
  TwoAt w a b csa csb cx x ∧ PsQ (fun _ => True) x v1 l ∧ PsQ (fun _ => True) x v2 m ∧ PsQ (fun _ => True) x v3 al ∧ PsQ (fun _ => True) x v4 ct
theorem FourAt.later {w : World} {a b : Re} {csa csb cx : List Value} {v1 v2 v3 v4 : Value} {l m al ct : List Parse} {x y : World} (h : FourAt w a b csa csb cx v1 v2 v3 v4 l m al ct x) (hb : Below x.heap.size x y) : FourAt w a b csa csb cx v1 v2 v3 v4 l m al ct y :=
  ⟨h.1.later hb, h.2.1.below hb, h.2.2.1.below hb, h.2.2.2.1.below hb, h.2.2.2.2.below hb⟩
/-- What is gathered of the ends behind the first i parses. -/
def gath (b : Re) (s : ByteArray) (lines : Bool) (l : List Parse) (i : Nat) : List Nat := (l.take i).flatMap fun q => endsR (parsesR b s q.1 lines)
theorem gath_len (b : Re) (s : ByteArray) (lines : Bool) : ∀ (l : List Parse), (l.flatMap fun q => endsR (parsesR b s q.1 lines)).length ≤ l.length * 4096
  | [] => by simp
  | q :: l => by
    have h1 := gath_len b s lines l
    have h2 : (endsR (parsesR b s q.1 lines)).length ≤ 4096 := by unfold endsR; rw [List.length_map]; exact parsesR_len
    rw [List.flatMap_cons, List.length_append, List.length_cons, Nat.succ_mul]
    omega
theorem gath_le (b : Re) (s : ByteArray) (lines : Bool) (l : List Parse) (i : Nat) (h : l.length ≤ 4096) : (gath b s lines l i).length ≤ 16777216 := by
  have h1 := gath_len b s lines (l.take i)
  have h2 : (l.take i).length ≤ 4096 := by rw [List.length_take]; omega
  have h3 : (l.take i).length * 4096 ≤ 4096 * 4096 := Nat.mul_le_mul_right _ h2
  unfold gath
  omega
theorem bin_size (op : Int) (a b : Re) : (bin op a b).size = a.size + b.size + 1 := by unfold bin; rw [Re.size_mk]; rfl
theorem bin_in {w : World} {bn : Nat} {T : TypeId} {a b : Re} {pa pb : Pay} {aa ab : Option Addr} {ma ca mb cb : Nat} (op : Int) (hop : I64 op) (hr : Row w bn [.int .i64 pa.op, .int .u64 pa.set.a, .int .u64 pa.set.b, .int .u64 pa.set.c, .int .u64 pa.set.d, .int .i64 pa.lo, .int .i64 pa.hi, .int .i64 pa.gr, .slice aa ma ca, .int .i64 pb.op, .int .u64 pb.set.a, .int .u64 pb.set.b, .int .u64 pb.set.c, .int .u64 pb.set.d, .int .i64 pb.lo, .int .i64 pb.hi, .int .i64 pb.gr, .slice ab mb cb] T) (ha : a.In w [.int .i64 pa.op, .int .u64 pa.set.a, .int .u64 pa.set.b, .int .u64 pa.set.c, .int .u64 pa.set.d, .int .i64 pa.lo, .int .i64 pa.hi, .int .i64 pa.gr, .slice aa ma ca]) (hb : b.In w [.int .i64 pb.op, .int .u64 pb.set.a, .int .u64 pb.set.b, .int .u64 pb.set.c, .int .u64 pb.set.d, .int .i64 pb.lo, .int .i64 pb.hi, .int .i64 pb.gr, .slice ab mb cb]) :
    (bin op a b).In w [.int .i64 op, .int .u64 0, .int .u64 0, .int .u64 0, .int .u64 0, .int .i64 0, .int .i64 0, .int .i64 0, .slice (some ⟨bn, 0, none⟩) 2 2] :=
  node_in (w := w) (b := bn) (T := T) op 0 hop (by unfold I64; omega) [(a, [.int .i64 pa.op, .int .u64 pa.set.a, .int .u64 pa.set.b, .int .u64 pa.set.c, .int .u64 pa.set.d, .int .i64 pa.lo, .int .i64 pa.hi, .int .i64 pa.gr, .slice aa ma ca]), (b, [.int .i64 pb.op, .int .u64 pb.set.a, .int .u64 pb.set.b, .int .u64 pb.set.c, .int .u64 pb.set.d, .int .i64 pb.lo, .int .i64 pb.hi, .int .i64 pb.gr, .slice ab mb cb])] (by simpa using hr) (by simp) (fun e he => by
    simp at he
    rcases he with rfl | rfl
    · exact ha
    · exact hb)
set_option maxRecDepth 100000 in
set_option maxHeartbeats 16000000 in
theorem LawComposes9_any (w : World) (a : Re) (csa : List Value) (b : Re) (csb : List Value) (s : ByteArray) (at_ : Int) (lines : Bool) (hina : a.In w csa) (hinb : b.In w csb) (ht : Tabs9 w) :
    Calls Tryd.prog 7 #[.agg csa.toArray, .agg csb.toArray, .agg #[.string s, .int .i64 at_, .bool lines]] w (LawPost w) := by
  obtain ⟨pa, aa, ma, ca, rfl⟩ := Re.cells_shape hina
  obtain ⟨pb, ab, mb, cb, rfl⟩ := Re.cells_shape hinb
  have hb2 : Below w.heap.size w (((w.alloc (.cells #[.int .i64 pa.op, .int .u64 pa.set.a, .int .u64 pa.set.b, .int .u64 pa.set.c, .int .u64 pa.set.d, .int .i64 pa.lo, .int .i64 pa.hi, .int .i64 pa.gr, .slice aa ma ca] 28)).alloc (.cells #[.int .i64 pb.op, .int .u64 pb.set.a, .int .u64 pb.set.b, .int .u64 pb.set.c, .int .u64 pb.set.d, .int .i64 pb.lo, .int .i64 pb.hi, .int .i64 pb.gr, .slice ab mb cb] 28)).alloc (.cells #[.string s, .int .i64 at_, .bool lines] 30)) := (((Below.refl _ _).alloc (Nat.le_refl _) _).alloc (by simp) _).alloc (by simp; omega) _
  have hL : TwoAt w a b [.int .i64 pa.op, .int .u64 pa.set.a, .int .u64 pa.set.b, .int .u64 pa.set.c, .int .u64 pa.set.d, .int .i64 pa.lo, .int .i64 pa.hi, .int .i64 pa.gr, .slice aa ma ca] [.int .i64 pb.op, .int .u64 pb.set.a, .int .u64 pb.set.b, .int .u64 pb.set.c, .int .u64 pb.set.d, .int .i64 pb.lo, .int .i64 pb.hi, .int .i64 pb.gr, .slice ab mb cb] [.string s, .int .i64 at_, .bool lines] (((w.alloc (.cells #[.int .i64 pa.op, .int .u64 pa.set.a, .int .u64 pa.set.b, .int .u64 pa.set.c, .int .u64 pa.set.d, .int .i64 pa.lo, .int .i64 pa.hi, .int .i64 pa.gr, .slice aa ma ca] 28)).alloc (.cells #[.int .i64 pb.op, .int .u64 pb.set.a, .int .u64 pb.set.b, .int .u64 pb.set.c, .int .u64 pb.set.d, .int .i64 pb.lo, .int .i64 pb.hi, .int .i64 pb.gr, .slice ab mb cb] 28)).alloc (.cells #[.string s, .int .i64 at_, .bool lines] 30)) := ⟨⟨((Row.new rfl).alloc _).alloc _, (Row.new (by simp)).alloc _, Row.new (by simp)⟩, hb2, ⟨hina.below hb2, hinb.below hb2⟩, ht.on hb2⟩
  have HL := hid hL
  clear hb2 hL hina hinb ht
  have HAW : Hid (∀ x, TwoAt w a b [.int .i64 pa.op, .int .u64 pa.set.a, .int .u64 pa.set.b, .int .u64 pa.set.c, .int .u64 pa.set.d, .int .i64 pa.lo, .int .i64 pa.hi, .int .i64 pa.gr, .slice aa ma ca] [.int .i64 pb.op, .int .u64 pb.set.a, .int .u64 pb.set.b, .int .u64 pb.set.c, .int .u64 pb.set.d, .int .i64 pb.lo, .int .i64 pb.hi, .int .i64 pb.gr, .slice ab mb cb] [.string s, .int .i64 at_, .bool lines] x → Calls Tryd.prog 11 #[] x (LawPost w)) := fun x hx => (awake9_any x hx.2.2.2).mono fun e w' h => ⟨h.1, hx.2.1.trans (h.2.mono hx.2.1.size)⟩
  have q0 := HL.out.1.1.c9
  have q1 := HL.out.1.2.1.c9
  have q2 := HL.out.1.2.2.three9
  go_enter Tryd.func7, Tryd.ntmps7
  go_upto_region 1 with fail
  generalize (((w.alloc (.cells #[.int .i64 pa.op, .int .u64 pa.set.a, .int .u64 pa.set.b, .int .u64 pa.set.c, .int .u64 pa.set.d, .int .i64 pa.lo, .int .i64 pa.hi, .int .i64 pa.gr, .slice aa ma ca] 28)).alloc (.cells #[.int .i64 pb.op, .int .u64 pb.set.a, .int .u64 pb.set.b, .int .u64 pb.set.c, .int .u64 pb.set.d, .int .i64 pb.lo, .int .i64 pb.hi, .int .i64 pb.gr, .slice ab mb cb] 28)).alloc (.cells #[.string s, .int .i64 at_, .bool lines] 30)) = w1 at HL q0 q1 q2 ⊢
  have hwl := HL.out.2.1.size
  have HC := hid (fun (x : World) (hx : Grow w1.drew x) => (⟨(HL.out.later (grow_below hx)).1.1.c9, (HL.out.later (grow_below hx)).1.2.1.c9, (HL.out.later (grow_below hx)).1.2.2.three9⟩ : _ ∧ _ ∧ _))
  have HSA := hid (fun (x : World) (hx : Grow w1.drew x) => SmallB_any x a [.int .i64 pa.op, .int .u64 pa.set.a, .int .u64 pa.set.b, .int .u64 pa.set.c, .int .u64 pa.set.d, .int .i64 pa.lo, .int .i64 pa.hi, .int .i64 pa.gr, .slice aa ma ca] 8 (HL.out.later (grow_below hx)).2.2.1.1 (by omega))
  have HSB := hid (fun (x : World) (hx : Grow w1.drew x) => SmallB_any x b [.int .i64 pb.op, .int .u64 pb.set.a, .int .u64 pb.set.b, .int .u64 pb.set.c, .int .u64 pb.set.d, .int .i64 pb.lo, .int .i64 pb.hi, .int .i64 pb.gr, .slice ab mb cb] 8 (HL.out.later (grow_below hx)).2.2.1.2 (by omega))
  cases hsa : a.small 8 with
  | false =>
    rw [hsa] at HSA
    clear hsa
    go_wp2_with fail
    refine wp_region_inv 32 (Grow) (by kernel_rfl) (by kernel_rfl) (Grow.refl) (fun _ _ _ => Grow.trans) ?_
    simp only [fill, dstOf, Act.put, List.take_succ_cons, List.take_zero, List.getElem?_toArray, List.getElem?_cons_zero, List.getElem?_cons_succ, Option.bind_some, List.setIfInBounds_toArray, List.set_cons_zero, List.set_cons_succ]
    refine Plan.det 1 rfl (Grow.refl) ?_
    apply Exists.intro
    refine ⟨fun vs x hR hF K hK => ?_, ?_⟩
    · have hc := HC.out x hR; clear hF
      go_simp
      exact hK _ _ (Grow.refl _) rfl
    refine Plan.det 2 rfl (Grow.refl) ?_
    apply Exists.intro
    refine ⟨fun vs x hR hF K hK => ?_, ?_⟩
    · have f0 := hF 0 _ _ rfl rfl; clear hF
      go_simp
      refine (HSA.out x hR).mono ?_
      rintro e x1 ⟨rfl, hbe⟩
      exact ⟨_, rfl, hK _ _ hbe rfl⟩
    refine Plan.det 3 rfl (Grow.refl) ?_
    apply Exists.intro
    refine ⟨fun vs x hR hF K hK => ?_, ?_⟩
    · have f1 := hF 0 _ _ rfl rfl; clear hF
      go_simp
      exact hK _ _ (Grow.refl _) rfl
    refine Plan.det 4 rfl (Grow.refl) ?_
    apply Exists.intro
    refine ⟨fun vs x hR hF K hK => ?_, ?_⟩
    · have f1 := hF 1 _ _ rfl rfl; have f2 := hF 0 _ _ rfl rfl; clear hF
      go_simp
      exact hK _ _ (Grow.refl _) rfl
    refine Plan.det 5 rfl (Grow.refl) ?_
    apply Exists.intro
    refine ⟨fun vs x hR hF K hK => ?_, ?_⟩
    · have f3 := hF 0 _ _ rfl rfl; have hc := HC.out x hR; clear hF
      go_simp
      exact hK _ _ (Grow.refl _) rfl
    refine Plan.det 6 rfl (Grow.refl) ?_
    apply Exists.intro
    refine ⟨fun vs x hR hF K hK => ?_, ?_⟩
    · have f3 := hF 1 _ _ rfl rfl; have f4 := hF 0 _ _ rfl rfl; clear hF
      go_simp
      exact hK _ _ (Grow.refl _) rfl
    refine Plan.det 7 rfl (Grow.refl) ?_
    apply Exists.intro
    refine ⟨fun vs x hR hF K hK => ?_, ?_⟩
    · have f3 := hF 2 _ _ rfl rfl; have f5 := hF 0 _ _ rfl rfl; clear hF
      go_simp
      exact hK _ _ (Grow.refl _) rfl
    refine Plan.det 8 rfl (Grow.refl) ?_
    apply Exists.intro
    refine ⟨fun vs x hR hF K hK => ?_, ?_⟩
    · have f3 := hF 3 _ _ rfl rfl; have f6 := hF 0 _ _ rfl rfl; clear hF
      go_simp
      exact hK _ _ (Grow.refl _) rfl
    refine Plan.det 9 rfl (Grow.refl) ?_
    apply Exists.intro
    refine ⟨fun vs x hR hF K hK => ?_, ?_⟩
    · have f5 := hF 2 _ _ rfl rfl; have f7 := hF 0 _ _ rfl rfl; clear hF
      go_simp
      exact hK _ _ (Grow.refl _) rfl
    refine Plan.det 10 rfl (Grow.refl) ?_
    apply Exists.intro
    refine ⟨fun vs x hR hF K hK => ?_, ?_⟩
    · have f8 := hF 0 _ _ rfl rfl; clear hF
      go_simp
      exact hK _ _ (Grow.refl _) rfl
    refine Plan.det 11 rfl (Grow.refl) ?_
    apply Exists.intro
    refine ⟨fun vs x hR hF K hK => ?_, ?_⟩
    · have f8 := hF 1 _ _ rfl rfl; have f9 := hF 0 _ _ rfl rfl; have hc := HC.out x hR; clear hF
      go_simp
      exact hK _ _ (Grow.refl _) rfl
    refine Plan.det 12 rfl (Grow.refl) ?_
    apply Exists.intro
    refine ⟨fun vs x hR hF K hK => ?_, ?_⟩
    · have f8 := hF 2 _ _ rfl rfl; have f10 := hF 0 _ _ rfl rfl; clear hF
      go_simp
      exact hK _ _ (Grow.refl _) rfl
    refine Plan.det 13 rfl (Grow.refl) ?_
    apply Exists.intro
    refine ⟨fun vs x hR hF K hK => ?_, ?_⟩
    · have f8 := hF 3 _ _ rfl rfl; have f11 := hF 0 _ _ rfl rfl; clear hF
      go_simp
      exact hK _ _ (Grow.refl _) rfl
    refine Plan.det 14 rfl (Grow.refl) ?_
    apply Exists.intro
    refine ⟨fun vs x hR hF K hK => ?_, ?_⟩
    · have f8 := hF 4 _ _ rfl rfl; have f12 := hF 0 _ _ rfl rfl; clear hF
      go_simp
      exact hK _ _ (Grow.refl _) rfl
    refine Plan.det 15 rfl (Grow.refl) ?_
    apply Exists.intro
    refine ⟨fun vs x hR hF K hK => ?_, ?_⟩
    · have f8 := hF 5 _ _ rfl rfl; have f13 := hF 0 _ _ rfl rfl; clear hF
      go_simp
      exact hK _ _ (Grow.refl _) rfl
    refine Plan.det 16 rfl (Grow.refl) ?_
    apply Exists.intro
    refine ⟨fun vs x hR hF K hK => ?_, ?_⟩
    · have f14 := hF 0 _ _ rfl rfl; have hc := HC.out x hR; clear hF
      go_simp
      exact hK _ _ (Grow.refl _) rfl
    refine Plan.det 17 rfl (Grow.refl) ?_
    apply Exists.intro
    refine ⟨fun vs x hR hF K hK => ?_, ?_⟩
    · have f14 := hF 1 _ _ rfl rfl; have f15 := hF 0 _ _ rfl rfl; clear hF
      go_simp
      exact hK _ _ (Grow.refl _) rfl
    refine Plan.det 18 rfl (Grow.refl) ?_
    apply Exists.intro
    refine ⟨fun vs x hR hF K hK => ?_, ?_⟩
    · have f14 := hF 2 _ _ rfl rfl; have f16 := hF 0 _ _ rfl rfl; clear hF
      go_simp
      exact hK _ _ (Grow.refl _) rfl
    refine Plan.det 19 rfl (Grow.refl) ?_
    apply Exists.intro
    refine ⟨fun vs x hR hF K hK => ?_, ?_⟩
    · have f14 := hF 3 _ _ rfl rfl; have f17 := hF 0 _ _ rfl rfl; clear hF
      go_simp
      exact hK _ _ (Grow.refl _) rfl
    refine Plan.det 20 rfl (Grow.refl) ?_
    apply Exists.intro
    refine ⟨fun vs x hR hF K hK => ?_, ?_⟩
    · have f16 := hF 2 _ _ rfl rfl; have f18 := hF 0 _ _ rfl rfl; clear hF
      go_simp
      exact hK _ _ (Grow.refl _) rfl
    refine Plan.det 21 rfl (Grow.refl) ?_
    apply Exists.intro
    refine ⟨fun vs x hR hF K hK => ?_, ?_⟩
    · have f19 := hF 0 _ _ rfl rfl; have hc := HC.out x hR; clear hF
      go_simp
      exact hK _ _ (Grow.refl _) rfl
    refine Plan.det 22 rfl (Grow.refl) ?_
    apply Exists.intro
    refine ⟨fun vs x hR hF K hK => ?_, ?_⟩
    · have f19 := hF 1 _ _ rfl rfl; have f20 := hF 0 _ _ rfl rfl; clear hF
      go_simp
      exact hK _ _ (Grow.refl _) rfl
    refine Plan.det 23 rfl (Grow.refl) ?_
    apply Exists.intro
    refine ⟨fun vs x hR hF K hK => ?_, ?_⟩
    · have f19 := hF 2 _ _ rfl rfl; have f21 := hF 0 _ _ rfl rfl; clear hF
      go_simp
      exact hK _ _ (Grow.refl _) rfl
    refine Plan.det 24 rfl (Grow.refl) ?_
    apply Exists.intro
    refine ⟨fun vs x hR hF K hK => ?_, ?_⟩
    · have f19 := hF 3 _ _ rfl rfl; have f22 := hF 0 _ _ rfl rfl; clear hF
      go_simp
      exact hK _ _ (Grow.refl _) rfl
    refine Plan.det 25 rfl (Grow.refl) ?_
    apply Exists.intro
    refine ⟨fun vs x hR hF K hK => ?_, ?_⟩
    · have f21 := hF 2 _ _ rfl rfl; have f23 := hF 0 _ _ rfl rfl; clear hF
      go_simp
      exact hK _ _ (Grow.refl _) rfl
    refine Plan.det 26 rfl (Grow.refl) ?_
    apply Exists.intro
    refine ⟨fun vs x hR hF K hK => ?_, ?_⟩
    · have f24 := hF 0 _ _ rfl rfl; have hc := HC.out x hR; clear hF
      go_simp
      exact hK _ _ (Grow.refl _) rfl
    refine Plan.det 27 rfl (Grow.refl) ?_
    apply Exists.intro
    refine ⟨fun vs x hR hF K hK => ?_, ?_⟩
    · have f24 := hF 1 _ _ rfl rfl; have f25 := hF 0 _ _ rfl rfl; clear hF
      go_simp
      exact hK _ _ (Grow.refl _) rfl
    refine Plan.det 28 rfl (Grow.refl) ?_
    apply Exists.intro
    refine ⟨fun vs x hR hF K hK => ?_, ?_⟩
    · have f24 := hF 2 _ _ rfl rfl; have hc := HC.out x hR; clear hF
      go_simp
      exact hK _ _ (Grow.refl _) rfl
    refine Plan.det 29 rfl (Grow.refl) ?_
    apply Exists.intro
    refine ⟨fun vs x hR hF K hK => ?_, ?_⟩
    · have f24 := hF 3 _ _ rfl rfl; have f26 := hF 1 _ _ rfl rfl; have f27 := hF 0 _ _ rfl rfl; clear hF
      go_simp
      exact hK _ _ (Grow.refl _) rfl
    refine Plan.det 30 rfl (Grow.refl) ?_
    apply Exists.intro
    refine ⟨fun vs x hR hF K hK => ?_, ?_⟩
    · have f24 := hF 4 _ _ rfl rfl; have f26 := hF 2 _ _ rfl rfl; have f28 := hF 0 _ _ rfl rfl; clear hF
      go_simp
      exact hK _ _ (Grow.refl _) rfl
    refine Plan.det 31 rfl (Grow.refl) ?_
    apply Exists.intro
    refine ⟨fun vs x hR hF K hK => ?_, ?_⟩
    · have f24 := hF 5 _ _ rfl rfl; have f29 := hF 0 _ _ rfl rfl; clear hF
      go_simp
      exact hK _ _ (Grow.refl _) rfl
    refine Plan.det 32 rfl (Grow.refl) ?_
    apply Exists.intro
    refine ⟨fun vs x hR hF K hK => ?_, ?_⟩
    · have f24 := hF 6 _ _ rfl rfl; have f30 := hF 0 _ _ rfl rfl; clear hF
      go_simp
      exact hK _ _ (Grow.refl _) rfl
    refine Plan.nil (fun vs x hR hF => ?_)
    have f0 := hF 31 _ _ rfl; have f1 := hF 30 _ _ rfl; have f2 := hF 29 _ _ rfl; have f3 := hF 28 _ _ rfl; have f4 := hF 27 _ _ rfl; have f5 := hF 26 _ _ rfl; have f6 := hF 25 _ _ rfl; have f7 := hF 24 _ _ rfl; have f8 := hF 23 _ _ rfl; have f9 := hF 22 _ _ rfl; have f10 := hF 21 _ _ rfl; have f11 := hF 20 _ _ rfl; have f12 := hF 19 _ _ rfl; have f13 := hF 18 _ _ rfl; have f14 := hF 17 _ _ rfl; have f15 := hF 16 _ _ rfl; have f16 := hF 15 _ _ rfl; have f17 := hF 14 _ _ rfl; have f18 := hF 13 _ _ rfl; have f19 := hF 12 _ _ rfl; have f20 := hF 11 _ _ rfl; have f21 := hF 10 _ _ rfl; have f22 := hF 9 _ _ rfl; have f23 := hF 8 _ _ rfl; have f24 := hF 7 _ _ rfl; have f25 := hF 6 _ _ rfl; have f26 := hF 5 _ _ rfl; have f27 := hF 4 _ _ rfl; have f28 := hF 3 _ _ rfl; have f29 := hF 2 _ _ rfl; have f30 := hF 1 _ _ rfl; have f31 := hF 0 _ _ rfl
    clear hF
    simp only [f0, f1, f2, f3, f4, f5, f6, f7, f8, f9, f10, f11, f12, f13, f14, f15, f16, f17, f18, f19, f20, f21, f22, f23, f24, f25, f26, f27, f28, f29, f30, f31]
    clear f0 f1 f2 f3 f4 f5 f6 f7 f8 f9 f10 f11 f12 f13 f14 f15 f16 f17 f18 f19 f20 f21 f22 f23 f24 f25 f26 f27 f28 f29 f30 f31
    simp only [List.drop_succ_cons, List.drop_zero]
    have HLX := hid (HL.out.later (grow_below hR))
    clear HC hR
    go_wp2_with fail
    refine (HAW.out _ HLX.out).mono ?_
    rintro e w9 ⟨rfl, hb⟩
    have HB := hid hb
    clear hb
    go_wp2_with fail
    go_ret
    exact ⟨rfl, HB.out⟩
  | true =>
  rw [hsa] at HSA
  have hza := Re.small_size hsa
  have HZA := hid hza
  clear hsa hza
  cases hsb : b.small 8 with
  | false =>
    rw [hsb] at HSB
    clear hsb
    go_wp2_with fail
    refine wp_region_inv 32 (Grow) (by kernel_rfl) (by kernel_rfl) (Grow.refl) (fun _ _ _ => Grow.trans) ?_
    simp only [fill, dstOf, Act.put, List.take_succ_cons, List.take_zero, List.getElem?_toArray, List.getElem?_cons_zero, List.getElem?_cons_succ, Option.bind_some, List.setIfInBounds_toArray, List.set_cons_zero, List.set_cons_succ]
    refine Plan.det 1 rfl (Grow.refl) ?_
    apply Exists.intro
    refine ⟨fun vs x hR hF K hK => ?_, ?_⟩
    · have hc := HC.out x hR; clear hF
      go_simp
      exact hK _ _ (Grow.refl _) rfl
    refine Plan.det 2 rfl (Grow.refl) ?_
    apply Exists.intro
    refine ⟨fun vs x hR hF K hK => ?_, ?_⟩
    · have f0 := hF 0 _ _ rfl rfl; clear hF
      go_simp
      refine (HSA.out x hR).mono ?_
      rintro e x1 ⟨rfl, hbe⟩
      exact ⟨_, rfl, hK _ _ hbe rfl⟩
    refine Plan.det 3 rfl (Grow.refl) ?_
    apply Exists.intro
    refine ⟨fun vs x hR hF K hK => ?_, ?_⟩
    · have f1 := hF 0 _ _ rfl rfl; clear hF
      go_simp
      exact hK _ _ (Grow.refl _) rfl
    refine Plan.det 4 rfl (Grow.refl) ?_
    apply Exists.intro
    refine ⟨fun vs x hR hF K hK => ?_, ?_⟩
    · have f1 := hF 1 _ _ rfl rfl; have f2 := hF 0 _ _ rfl rfl; clear hF
      go_simp
      exact hK _ _ (Grow.refl _) rfl
    refine Plan.det 5 rfl (Grow.refl) ?_
    apply Exists.intro
    refine ⟨fun vs x hR hF K hK => ?_, ?_⟩
    · have f3 := hF 0 _ _ rfl rfl; have hc := HC.out x hR; clear hF
      go_simp
      exact hK _ _ (Grow.refl _) rfl
    refine Plan.det 6 rfl (Grow.refl) ?_
    apply Exists.intro
    refine ⟨fun vs x hR hF K hK => ?_, ?_⟩
    · have f3 := hF 1 _ _ rfl rfl; have f4 := hF 0 _ _ rfl rfl; clear hF
      go_simp
      refine (HSB.out x hR).mono ?_
      rintro e x1 ⟨rfl, hbe⟩
      exact ⟨_, rfl, hK _ _ hbe rfl⟩
    refine Plan.det 7 rfl (Grow.refl) ?_
    apply Exists.intro
    refine ⟨fun vs x hR hF K hK => ?_, ?_⟩
    · have f3 := hF 2 _ _ rfl rfl; have f5 := hF 0 _ _ rfl rfl; clear hF
      go_simp
      exact hK _ _ (Grow.refl _) rfl
    refine Plan.det 8 rfl (Grow.refl) ?_
    apply Exists.intro
    refine ⟨fun vs x hR hF K hK => ?_, ?_⟩
    · have f3 := hF 3 _ _ rfl rfl; have f6 := hF 0 _ _ rfl rfl; clear hF
      go_simp
      exact hK _ _ (Grow.refl _) rfl
    refine Plan.det 9 rfl (Grow.refl) ?_
    apply Exists.intro
    refine ⟨fun vs x hR hF K hK => ?_, ?_⟩
    · have f5 := hF 2 _ _ rfl rfl; have f7 := hF 0 _ _ rfl rfl; clear hF
      go_simp
      exact hK _ _ (Grow.refl _) rfl
    refine Plan.det 10 rfl (Grow.refl) ?_
    apply Exists.intro
    refine ⟨fun vs x hR hF K hK => ?_, ?_⟩
    · have f8 := hF 0 _ _ rfl rfl; clear hF
      go_simp
      exact hK _ _ (Grow.refl _) rfl
    refine Plan.det 11 rfl (Grow.refl) ?_
    apply Exists.intro
    refine ⟨fun vs x hR hF K hK => ?_, ?_⟩
    · have f8 := hF 1 _ _ rfl rfl; have f9 := hF 0 _ _ rfl rfl; have hc := HC.out x hR; clear hF
      go_simp
      exact hK _ _ (Grow.refl _) rfl
    refine Plan.det 12 rfl (Grow.refl) ?_
    apply Exists.intro
    refine ⟨fun vs x hR hF K hK => ?_, ?_⟩
    · have f8 := hF 2 _ _ rfl rfl; have f10 := hF 0 _ _ rfl rfl; clear hF
      go_simp
      exact hK _ _ (Grow.refl _) rfl
    refine Plan.det 13 rfl (Grow.refl) ?_
    apply Exists.intro
    refine ⟨fun vs x hR hF K hK => ?_, ?_⟩
    · have f8 := hF 3 _ _ rfl rfl; have f11 := hF 0 _ _ rfl rfl; clear hF
      go_simp
      exact hK _ _ (Grow.refl _) rfl
    refine Plan.det 14 rfl (Grow.refl) ?_
    apply Exists.intro
    refine ⟨fun vs x hR hF K hK => ?_, ?_⟩
    · have f8 := hF 4 _ _ rfl rfl; have f12 := hF 0 _ _ rfl rfl; clear hF
      go_simp
      exact hK _ _ (Grow.refl _) rfl
    refine Plan.det 15 rfl (Grow.refl) ?_
    apply Exists.intro
    refine ⟨fun vs x hR hF K hK => ?_, ?_⟩
    · have f8 := hF 5 _ _ rfl rfl; have f13 := hF 0 _ _ rfl rfl; clear hF
      go_simp
      exact hK _ _ (Grow.refl _) rfl
    refine Plan.det 16 rfl (Grow.refl) ?_
    apply Exists.intro
    refine ⟨fun vs x hR hF K hK => ?_, ?_⟩
    · have f14 := hF 0 _ _ rfl rfl; have hc := HC.out x hR; clear hF
      go_simp
      exact hK _ _ (Grow.refl _) rfl
    refine Plan.det 17 rfl (Grow.refl) ?_
    apply Exists.intro
    refine ⟨fun vs x hR hF K hK => ?_, ?_⟩
    · have f14 := hF 1 _ _ rfl rfl; have f15 := hF 0 _ _ rfl rfl; clear hF
      go_simp
      exact hK _ _ (Grow.refl _) rfl
    refine Plan.det 18 rfl (Grow.refl) ?_
    apply Exists.intro
    refine ⟨fun vs x hR hF K hK => ?_, ?_⟩
    · have f14 := hF 2 _ _ rfl rfl; have f16 := hF 0 _ _ rfl rfl; clear hF
      go_simp
      exact hK _ _ (Grow.refl _) rfl
    refine Plan.det 19 rfl (Grow.refl) ?_
    apply Exists.intro
    refine ⟨fun vs x hR hF K hK => ?_, ?_⟩
    · have f14 := hF 3 _ _ rfl rfl; have f17 := hF 0 _ _ rfl rfl; clear hF
      go_simp
      exact hK _ _ (Grow.refl _) rfl
    refine Plan.det 20 rfl (Grow.refl) ?_
    apply Exists.intro
    refine ⟨fun vs x hR hF K hK => ?_, ?_⟩
    · have f16 := hF 2 _ _ rfl rfl; have f18 := hF 0 _ _ rfl rfl; clear hF
      go_simp
      exact hK _ _ (Grow.refl _) rfl
    refine Plan.det 21 rfl (Grow.refl) ?_
    apply Exists.intro
    refine ⟨fun vs x hR hF K hK => ?_, ?_⟩
    · have f19 := hF 0 _ _ rfl rfl; have hc := HC.out x hR; clear hF
      go_simp
      exact hK _ _ (Grow.refl _) rfl
    refine Plan.det 22 rfl (Grow.refl) ?_
    apply Exists.intro
    refine ⟨fun vs x hR hF K hK => ?_, ?_⟩
    · have f19 := hF 1 _ _ rfl rfl; have f20 := hF 0 _ _ rfl rfl; clear hF
      go_simp
      exact hK _ _ (Grow.refl _) rfl
    refine Plan.det 23 rfl (Grow.refl) ?_
    apply Exists.intro
    refine ⟨fun vs x hR hF K hK => ?_, ?_⟩
    · have f19 := hF 2 _ _ rfl rfl; have f21 := hF 0 _ _ rfl rfl; clear hF
      go_simp
      exact hK _ _ (Grow.refl _) rfl
    refine Plan.det 24 rfl (Grow.refl) ?_
    apply Exists.intro
    refine ⟨fun vs x hR hF K hK => ?_, ?_⟩
    · have f19 := hF 3 _ _ rfl rfl; have f22 := hF 0 _ _ rfl rfl; clear hF
      go_simp
      exact hK _ _ (Grow.refl _) rfl
    refine Plan.det 25 rfl (Grow.refl) ?_
    apply Exists.intro
    refine ⟨fun vs x hR hF K hK => ?_, ?_⟩
    · have f21 := hF 2 _ _ rfl rfl; have f23 := hF 0 _ _ rfl rfl; clear hF
      go_simp
      exact hK _ _ (Grow.refl _) rfl
    refine Plan.det 26 rfl (Grow.refl) ?_
    apply Exists.intro
    refine ⟨fun vs x hR hF K hK => ?_, ?_⟩
    · have f24 := hF 0 _ _ rfl rfl; have hc := HC.out x hR; clear hF
      go_simp
      exact hK _ _ (Grow.refl _) rfl
    refine Plan.det 27 rfl (Grow.refl) ?_
    apply Exists.intro
    refine ⟨fun vs x hR hF K hK => ?_, ?_⟩
    · have f24 := hF 1 _ _ rfl rfl; have f25 := hF 0 _ _ rfl rfl; clear hF
      go_simp
      exact hK _ _ (Grow.refl _) rfl
    refine Plan.det 28 rfl (Grow.refl) ?_
    apply Exists.intro
    refine ⟨fun vs x hR hF K hK => ?_, ?_⟩
    · have f24 := hF 2 _ _ rfl rfl; have hc := HC.out x hR; clear hF
      go_simp
      exact hK _ _ (Grow.refl _) rfl
    refine Plan.det 29 rfl (Grow.refl) ?_
    apply Exists.intro
    refine ⟨fun vs x hR hF K hK => ?_, ?_⟩
    · have f24 := hF 3 _ _ rfl rfl; have f26 := hF 1 _ _ rfl rfl; have f27 := hF 0 _ _ rfl rfl; clear hF
      go_simp
      exact hK _ _ (Grow.refl _) rfl
    refine Plan.det 30 rfl (Grow.refl) ?_
    apply Exists.intro
    refine ⟨fun vs x hR hF K hK => ?_, ?_⟩
    · have f24 := hF 4 _ _ rfl rfl; have f26 := hF 2 _ _ rfl rfl; have f28 := hF 0 _ _ rfl rfl; clear hF
      go_simp
      exact hK _ _ (Grow.refl _) rfl
    refine Plan.det 31 rfl (Grow.refl) ?_
    apply Exists.intro
    refine ⟨fun vs x hR hF K hK => ?_, ?_⟩
    · have f24 := hF 5 _ _ rfl rfl; have f29 := hF 0 _ _ rfl rfl; clear hF
      go_simp
      exact hK _ _ (Grow.refl _) rfl
    refine Plan.det 32 rfl (Grow.refl) ?_
    apply Exists.intro
    refine ⟨fun vs x hR hF K hK => ?_, ?_⟩
    · have f24 := hF 6 _ _ rfl rfl; have f30 := hF 0 _ _ rfl rfl; clear hF
      go_simp
      exact hK _ _ (Grow.refl _) rfl
    refine Plan.nil (fun vs x hR hF => ?_)
    have f0 := hF 31 _ _ rfl; have f1 := hF 30 _ _ rfl; have f2 := hF 29 _ _ rfl; have f3 := hF 28 _ _ rfl; have f4 := hF 27 _ _ rfl; have f5 := hF 26 _ _ rfl; have f6 := hF 25 _ _ rfl; have f7 := hF 24 _ _ rfl; have f8 := hF 23 _ _ rfl; have f9 := hF 22 _ _ rfl; have f10 := hF 21 _ _ rfl; have f11 := hF 20 _ _ rfl; have f12 := hF 19 _ _ rfl; have f13 := hF 18 _ _ rfl; have f14 := hF 17 _ _ rfl; have f15 := hF 16 _ _ rfl; have f16 := hF 15 _ _ rfl; have f17 := hF 14 _ _ rfl; have f18 := hF 13 _ _ rfl; have f19 := hF 12 _ _ rfl; have f20 := hF 11 _ _ rfl; have f21 := hF 10 _ _ rfl; have f22 := hF 9 _ _ rfl; have f23 := hF 8 _ _ rfl; have f24 := hF 7 _ _ rfl; have f25 := hF 6 _ _ rfl; have f26 := hF 5 _ _ rfl; have f27 := hF 4 _ _ rfl; have f28 := hF 3 _ _ rfl; have f29 := hF 2 _ _ rfl; have f30 := hF 1 _ _ rfl; have f31 := hF 0 _ _ rfl
    clear hF
    simp only [f0, f1, f2, f3, f4, f5, f6, f7, f8, f9, f10, f11, f12, f13, f14, f15, f16, f17, f18, f19, f20, f21, f22, f23, f24, f25, f26, f27, f28, f29, f30, f31]
    clear f0 f1 f2 f3 f4 f5 f6 f7 f8 f9 f10 f11 f12 f13 f14 f15 f16 f17 f18 f19 f20 f21 f22 f23 f24 f25 f26 f27 f28 f29 f30 f31
    simp only [List.drop_succ_cons, List.drop_zero]
    have HLX := hid (HL.out.later (grow_below hR))
    clear HC hR
    go_wp2_with fail
    refine (HAW.out _ HLX.out).mono ?_
    rintro e w9 ⟨rfl, hb⟩
    have HB := hid hb
    clear hb
    go_wp2_with fail
    go_ret
    exact ⟨rfl, HB.out⟩
  | true =>
  rw [hsb] at HSB
  have hzb := Re.small_size hsb
  have HZB := hid hzb
  clear hsb hzb
  by_cases hs : s.size ≤ 12
  case neg =>
    have hsI : (12 : Int) < s.size := by omega
    have hsN : 12 < s.size := by omega
    go_wp2_with fail
    refine wp_region_inv 32 (Grow) (by kernel_rfl) (by kernel_rfl) (Grow.refl) (fun _ _ _ => Grow.trans) ?_
    simp only [fill, dstOf, Act.put, List.take_succ_cons, List.take_zero, List.getElem?_toArray, List.getElem?_cons_zero, List.getElem?_cons_succ, Option.bind_some, List.setIfInBounds_toArray, List.set_cons_zero, List.set_cons_succ]
    refine Plan.det 1 rfl (Grow.refl) ?_
    apply Exists.intro
    refine ⟨fun vs x hR hF K hK => ?_, ?_⟩
    · have hc := HC.out x hR; clear hF
      go_simp
      exact hK _ _ (Grow.refl _) rfl
    refine Plan.det 2 rfl (Grow.refl) ?_
    apply Exists.intro
    refine ⟨fun vs x hR hF K hK => ?_, ?_⟩
    · have f0 := hF 0 _ _ rfl rfl; clear hF
      go_simp
      refine (HSA.out x hR).mono ?_
      rintro e x1 ⟨rfl, hbe⟩
      exact ⟨_, rfl, hK _ _ hbe rfl⟩
    refine Plan.det 3 rfl (Grow.refl) ?_
    apply Exists.intro
    refine ⟨fun vs x hR hF K hK => ?_, ?_⟩
    · have f1 := hF 0 _ _ rfl rfl; clear hF
      go_simp
      exact hK _ _ (Grow.refl _) rfl
    refine Plan.det 4 rfl (Grow.refl) ?_
    apply Exists.intro
    refine ⟨fun vs x hR hF K hK => ?_, ?_⟩
    · have f1 := hF 1 _ _ rfl rfl; have f2 := hF 0 _ _ rfl rfl; clear hF
      go_simp
      exact hK _ _ (Grow.refl _) rfl
    refine Plan.det 5 rfl (Grow.refl) ?_
    apply Exists.intro
    refine ⟨fun vs x hR hF K hK => ?_, ?_⟩
    · have f3 := hF 0 _ _ rfl rfl; have hc := HC.out x hR; clear hF
      go_simp
      exact hK _ _ (Grow.refl _) rfl
    refine Plan.det 6 rfl (Grow.refl) ?_
    apply Exists.intro
    refine ⟨fun vs x hR hF K hK => ?_, ?_⟩
    · have f3 := hF 1 _ _ rfl rfl; have f4 := hF 0 _ _ rfl rfl; clear hF
      go_simp
      refine (HSB.out x hR).mono ?_
      rintro e x1 ⟨rfl, hbe⟩
      exact ⟨_, rfl, hK _ _ hbe rfl⟩
    refine Plan.det 7 rfl (Grow.refl) ?_
    apply Exists.intro
    refine ⟨fun vs x hR hF K hK => ?_, ?_⟩
    · have f3 := hF 2 _ _ rfl rfl; have f5 := hF 0 _ _ rfl rfl; clear hF
      go_simp
      exact hK _ _ (Grow.refl _) rfl
    refine Plan.det 8 rfl (Grow.refl) ?_
    apply Exists.intro
    refine ⟨fun vs x hR hF K hK => ?_, ?_⟩
    · have f3 := hF 3 _ _ rfl rfl; have f6 := hF 0 _ _ rfl rfl; clear hF
      go_simp
      exact hK _ _ (Grow.refl _) rfl
    refine Plan.det 9 rfl (Grow.refl) ?_
    apply Exists.intro
    refine ⟨fun vs x hR hF K hK => ?_, ?_⟩
    · have f5 := hF 2 _ _ rfl rfl; have f7 := hF 0 _ _ rfl rfl; clear hF
      go_simp
      exact hK _ _ (Grow.refl _) rfl
    refine Plan.det 10 rfl (Grow.refl) ?_
    apply Exists.intro
    refine ⟨fun vs x hR hF K hK => ?_, ?_⟩
    · have f8 := hF 0 _ _ rfl rfl; clear hF
      go_simp
      exact hK _ _ (Grow.refl _) rfl
    refine Plan.det 11 rfl (Grow.refl) ?_
    apply Exists.intro
    refine ⟨fun vs x hR hF K hK => ?_, ?_⟩
    · have f8 := hF 1 _ _ rfl rfl; have f9 := hF 0 _ _ rfl rfl; have hc := HC.out x hR; clear hF
      go_simp
      exact hK _ _ (Grow.refl _) rfl
    refine Plan.det 12 rfl (Grow.refl) ?_
    apply Exists.intro
    refine ⟨fun vs x hR hF K hK => ?_, ?_⟩
    · have f8 := hF 2 _ _ rfl rfl; have f10 := hF 0 _ _ rfl rfl; clear hF
      go_simp
      exact hK _ _ (Grow.refl _) rfl
    refine Plan.det 13 rfl (Grow.refl) ?_
    apply Exists.intro
    refine ⟨fun vs x hR hF K hK => ?_, ?_⟩
    · have f8 := hF 3 _ _ rfl rfl; have f11 := hF 0 _ _ rfl rfl; clear hF
      go_simp
      exact hK _ _ (Grow.refl _) rfl
    refine Plan.det 14 rfl (Grow.refl) ?_
    apply Exists.intro
    refine ⟨fun vs x hR hF K hK => ?_, ?_⟩
    · have f8 := hF 4 _ _ rfl rfl; have f12 := hF 0 _ _ rfl rfl; clear hF
      go_simp
      exact hK _ _ (Grow.refl _) rfl
    refine Plan.det 15 rfl (Grow.refl) ?_
    apply Exists.intro
    refine ⟨fun vs x hR hF K hK => ?_, ?_⟩
    · have f8 := hF 5 _ _ rfl rfl; have f13 := hF 0 _ _ rfl rfl; clear hF
      go_simp
      exact hK _ _ (Grow.refl _) rfl
    refine Plan.det 16 rfl (Grow.refl) ?_
    apply Exists.intro
    refine ⟨fun vs x hR hF K hK => ?_, ?_⟩
    · have f14 := hF 0 _ _ rfl rfl; have hc := HC.out x hR; clear hF
      go_simp
      exact hK _ _ (Grow.refl _) rfl
    refine Plan.det 17 rfl (Grow.refl) ?_
    apply Exists.intro
    refine ⟨fun vs x hR hF K hK => ?_, ?_⟩
    · have f14 := hF 1 _ _ rfl rfl; have f15 := hF 0 _ _ rfl rfl; clear hF
      go_simp
      exact hK _ _ (Grow.refl _) rfl
    refine Plan.det 18 rfl (Grow.refl) ?_
    apply Exists.intro
    refine ⟨fun vs x hR hF K hK => ?_, ?_⟩
    · have f14 := hF 2 _ _ rfl rfl; have f16 := hF 0 _ _ rfl rfl; clear hF
      go_simp
      exact hK _ _ (Grow.refl _) rfl
    refine Plan.det 19 rfl (Grow.refl) ?_
    apply Exists.intro
    refine ⟨fun vs x hR hF K hK => ?_, ?_⟩
    · have f14 := hF 3 _ _ rfl rfl; have f17 := hF 0 _ _ rfl rfl; clear hF
      go_simp
      exact hK _ _ (Grow.refl _) rfl
    refine Plan.det 20 rfl (Grow.refl) ?_
    apply Exists.intro
    refine ⟨fun vs x hR hF K hK => ?_, ?_⟩
    · have f16 := hF 2 _ _ rfl rfl; have f18 := hF 0 _ _ rfl rfl; clear hF
      go_simp
      exact hK _ _ (Grow.refl _) rfl
    refine Plan.det 21 rfl (Grow.refl) ?_
    apply Exists.intro
    refine ⟨fun vs x hR hF K hK => ?_, ?_⟩
    · have f19 := hF 0 _ _ rfl rfl; have hc := HC.out x hR; clear hF
      go_simp
      exact hK _ _ (Grow.refl _) rfl
    refine Plan.det 22 rfl (Grow.refl) ?_
    apply Exists.intro
    refine ⟨fun vs x hR hF K hK => ?_, ?_⟩
    · have f19 := hF 1 _ _ rfl rfl; have f20 := hF 0 _ _ rfl rfl; clear hF
      go_simp
      exact hK _ _ (Grow.refl _) rfl
    refine Plan.det 23 rfl (Grow.refl) ?_
    apply Exists.intro
    refine ⟨fun vs x hR hF K hK => ?_, ?_⟩
    · have f19 := hF 2 _ _ rfl rfl; have f21 := hF 0 _ _ rfl rfl; clear hF
      go_simp
      exact hK _ _ (Grow.refl _) rfl
    refine Plan.det 24 rfl (Grow.refl) ?_
    apply Exists.intro
    refine ⟨fun vs x hR hF K hK => ?_, ?_⟩
    · have f19 := hF 3 _ _ rfl rfl; have f22 := hF 0 _ _ rfl rfl; clear hF
      go_simp
      exact hK _ _ (Grow.refl _) rfl
    refine Plan.det 25 rfl (Grow.refl) ?_
    apply Exists.intro
    refine ⟨fun vs x hR hF K hK => ?_, ?_⟩
    · have f21 := hF 2 _ _ rfl rfl; have f23 := hF 0 _ _ rfl rfl; clear hF
      go_simp
      exact hK _ _ (Grow.refl _) rfl
    refine Plan.det 26 rfl (Grow.refl) ?_
    apply Exists.intro
    refine ⟨fun vs x hR hF K hK => ?_, ?_⟩
    · have f24 := hF 0 _ _ rfl rfl; have hc := HC.out x hR; clear hF
      go_simp
      exact hK _ _ (Grow.refl _) rfl
    refine Plan.det 27 rfl (Grow.refl) ?_
    apply Exists.intro
    refine ⟨fun vs x hR hF K hK => ?_, ?_⟩
    · have f24 := hF 1 _ _ rfl rfl; have f25 := hF 0 _ _ rfl rfl; clear hF
      go_simp
      exact hK _ _ (Grow.refl _) rfl
    refine Plan.det 28 rfl (Grow.refl) ?_
    apply Exists.intro
    refine ⟨fun vs x hR hF K hK => ?_, ?_⟩
    · have f24 := hF 2 _ _ rfl rfl; have hc := HC.out x hR; clear hF
      go_simp
      exact hK _ _ (Grow.refl _) rfl
    refine Plan.det 29 rfl (Grow.refl) ?_
    apply Exists.intro
    refine ⟨fun vs x hR hF K hK => ?_, ?_⟩
    · have f24 := hF 3 _ _ rfl rfl; have f26 := hF 1 _ _ rfl rfl; have f27 := hF 0 _ _ rfl rfl; clear hF
      go_simp
      exact hK _ _ (Grow.refl _) rfl
    refine Plan.det 30 rfl (Grow.refl) ?_
    apply Exists.intro
    refine ⟨fun vs x hR hF K hK => ?_, ?_⟩
    · have f24 := hF 4 _ _ rfl rfl; have f26 := hF 2 _ _ rfl rfl; have f28 := hF 0 _ _ rfl rfl; clear hF
      go_simp
      exact hK _ _ (Grow.refl _) rfl
    refine Plan.det 31 rfl (Grow.refl) ?_
    apply Exists.intro
    refine ⟨fun vs x hR hF K hK => ?_, ?_⟩
    · have f24 := hF 5 _ _ rfl rfl; have f29 := hF 0 _ _ rfl rfl; clear hF
      go_simp
      exact hK _ _ (Grow.refl _) rfl
    refine Plan.det 32 rfl (Grow.refl) ?_
    apply Exists.intro
    refine ⟨fun vs x hR hF K hK => ?_, ?_⟩
    · have f24 := hF 6 _ _ rfl rfl; have f30 := hF 0 _ _ rfl rfl; clear hF
      go_simp
      exact hK _ _ (Grow.refl _) rfl
    refine Plan.nil (fun vs x hR hF => ?_)
    have f0 := hF 31 _ _ rfl; have f1 := hF 30 _ _ rfl; have f2 := hF 29 _ _ rfl; have f3 := hF 28 _ _ rfl; have f4 := hF 27 _ _ rfl; have f5 := hF 26 _ _ rfl; have f6 := hF 25 _ _ rfl; have f7 := hF 24 _ _ rfl; have f8 := hF 23 _ _ rfl; have f9 := hF 22 _ _ rfl; have f10 := hF 21 _ _ rfl; have f11 := hF 20 _ _ rfl; have f12 := hF 19 _ _ rfl; have f13 := hF 18 _ _ rfl; have f14 := hF 17 _ _ rfl; have f15 := hF 16 _ _ rfl; have f16 := hF 15 _ _ rfl; have f17 := hF 14 _ _ rfl; have f18 := hF 13 _ _ rfl; have f19 := hF 12 _ _ rfl; have f20 := hF 11 _ _ rfl; have f21 := hF 10 _ _ rfl; have f22 := hF 9 _ _ rfl; have f23 := hF 8 _ _ rfl; have f24 := hF 7 _ _ rfl; have f25 := hF 6 _ _ rfl; have f26 := hF 5 _ _ rfl; have f27 := hF 4 _ _ rfl; have f28 := hF 3 _ _ rfl; have f29 := hF 2 _ _ rfl; have f30 := hF 1 _ _ rfl; have f31 := hF 0 _ _ rfl
    clear hF
    simp only [f0, f1, f2, f3, f4, f5, f6, f7, f8, f9, f10, f11, f12, f13, f14, f15, f16, f17, f18, f19, f20, f21, f22, f23, f24, f25, f26, f27, f28, f29, f30, f31]
    clear f0 f1 f2 f3 f4 f5 f6 f7 f8 f9 f10 f11 f12 f13 f14 f15 f16 f17 f18 f19 f20 f21 f22 f23 f24 f25 f26 f27 f28 f29 f30 f31
    simp only [List.drop_succ_cons, List.drop_zero]
    have HLX := hid (HL.out.later (grow_below hR))
    clear HC hR
    go_wp2_with fail
    refine (HAW.out _ HLX.out).mono ?_
    rintro e w9 ⟨rfl, hb⟩
    have HB := hid hb
    clear hb
    go_wp2_with fail
    go_ret
    exact ⟨rfl, HB.out⟩
  have hsI : ¬ (12 : Int) < s.size := by omega
  have hsN : ¬ 12 < s.size := by omega
  have HCA := hid (fun (x : World) (hx : Grow w1.drew x) => CheckRef_any a x [.int .i64 pa.op, .int .u64 pa.set.a, .int .u64 pa.set.b, .int .u64 pa.set.c, .int .u64 pa.set.d, .int .i64 pa.lo, .int .i64 pa.hi, .int .i64 pa.gr, .slice aa ma ca] (HL.out.later (grow_below hx)).2.2.1.1 (by have := HZA.out; omega))
  have HCB := hid (fun (x : World) (hx : Grow w1.drew x) => CheckRef_any b x [.int .i64 pb.op, .int .u64 pb.set.a, .int .u64 pb.set.b, .int .u64 pb.set.c, .int .u64 pb.set.d, .int .i64 pb.lo, .int .i64 pb.hi, .int .i64 pb.gr, .slice ab mb cb] (HL.out.later (grow_below hx)).2.2.1.2 (by have := HZB.out; omega))
  by_cases hea : a.err = 0
  case neg =>
    obtain ⟨ea, hea2⟩ : ∃ ea, ea = a.err := ⟨_, rfl⟩
    rw [← hea2] at hea HCA
    have hab : (ea != 0) = true := by simpa using hea
    clear hea2
    go_wp2_with fail
    refine wp_region_inv 32 (Grow) (by kernel_rfl) (by kernel_rfl) (Grow.refl) (fun _ _ _ => Grow.trans) ?_
    simp only [fill, dstOf, Act.put, List.take_succ_cons, List.take_zero, List.getElem?_toArray, List.getElem?_cons_zero, List.getElem?_cons_succ, Option.bind_some, List.setIfInBounds_toArray, List.set_cons_zero, List.set_cons_succ]
    refine Plan.det 1 rfl (Grow.refl) ?_
    apply Exists.intro
    refine ⟨fun vs x hR hF K hK => ?_, ?_⟩
    · have hc := HC.out x hR; clear hF
      go_simp
      exact hK _ _ (Grow.refl _) rfl
    refine Plan.det 2 rfl (Grow.refl) ?_
    apply Exists.intro
    refine ⟨fun vs x hR hF K hK => ?_, ?_⟩
    · have f0 := hF 0 _ _ rfl rfl; clear hF
      go_simp
      refine (HSA.out x hR).mono ?_
      rintro e x1 ⟨rfl, hbe⟩
      exact ⟨_, rfl, hK _ _ hbe rfl⟩
    refine Plan.det 3 rfl (Grow.refl) ?_
    apply Exists.intro
    refine ⟨fun vs x hR hF K hK => ?_, ?_⟩
    · have f1 := hF 0 _ _ rfl rfl; clear hF
      go_simp
      exact hK _ _ (Grow.refl _) rfl
    refine Plan.det 4 rfl (Grow.refl) ?_
    apply Exists.intro
    refine ⟨fun vs x hR hF K hK => ?_, ?_⟩
    · have f1 := hF 1 _ _ rfl rfl; have f2 := hF 0 _ _ rfl rfl; clear hF
      go_simp
      exact hK _ _ (Grow.refl _) rfl
    refine Plan.det 5 rfl (Grow.refl) ?_
    apply Exists.intro
    refine ⟨fun vs x hR hF K hK => ?_, ?_⟩
    · have f3 := hF 0 _ _ rfl rfl; have hc := HC.out x hR; clear hF
      go_simp
      exact hK _ _ (Grow.refl _) rfl
    refine Plan.det 6 rfl (Grow.refl) ?_
    apply Exists.intro
    refine ⟨fun vs x hR hF K hK => ?_, ?_⟩
    · have f3 := hF 1 _ _ rfl rfl; have f4 := hF 0 _ _ rfl rfl; clear hF
      go_simp
      refine (HSB.out x hR).mono ?_
      rintro e x1 ⟨rfl, hbe⟩
      exact ⟨_, rfl, hK _ _ hbe rfl⟩
    refine Plan.det 7 rfl (Grow.refl) ?_
    apply Exists.intro
    refine ⟨fun vs x hR hF K hK => ?_, ?_⟩
    · have f3 := hF 2 _ _ rfl rfl; have f5 := hF 0 _ _ rfl rfl; clear hF
      go_simp
      exact hK _ _ (Grow.refl _) rfl
    refine Plan.det 8 rfl (Grow.refl) ?_
    apply Exists.intro
    refine ⟨fun vs x hR hF K hK => ?_, ?_⟩
    · have f3 := hF 3 _ _ rfl rfl; have f6 := hF 0 _ _ rfl rfl; clear hF
      go_simp
      exact hK _ _ (Grow.refl _) rfl
    refine Plan.det 9 rfl (Grow.refl) ?_
    apply Exists.intro
    refine ⟨fun vs x hR hF K hK => ?_, ?_⟩
    · have f5 := hF 2 _ _ rfl rfl; have f7 := hF 0 _ _ rfl rfl; clear hF
      go_simp
      exact hK _ _ (Grow.refl _) rfl
    refine Plan.det 10 rfl (Grow.refl) ?_
    apply Exists.intro
    refine ⟨fun vs x hR hF K hK => ?_, ?_⟩
    · have f8 := hF 0 _ _ rfl rfl; clear hF
      go_simp
      exact hK _ _ (Grow.refl _) rfl
    refine Plan.det 11 rfl (Grow.refl) ?_
    apply Exists.intro
    refine ⟨fun vs x hR hF K hK => ?_, ?_⟩
    · have f8 := hF 1 _ _ rfl rfl; have f9 := hF 0 _ _ rfl rfl; have hc := HC.out x hR; clear hF
      go_simp
      exact hK _ _ (Grow.refl _) rfl
    refine Plan.det 12 rfl (Grow.refl) ?_
    apply Exists.intro
    refine ⟨fun vs x hR hF K hK => ?_, ?_⟩
    · have f8 := hF 2 _ _ rfl rfl; have f10 := hF 0 _ _ rfl rfl; clear hF
      go_simp
      exact hK _ _ (Grow.refl _) rfl
    refine Plan.det 13 rfl (Grow.refl) ?_
    apply Exists.intro
    refine ⟨fun vs x hR hF K hK => ?_, ?_⟩
    · have f8 := hF 3 _ _ rfl rfl; have f11 := hF 0 _ _ rfl rfl; clear hF
      go_simp
      exact hK _ _ (Grow.refl _) rfl
    refine Plan.det 14 rfl (Grow.refl) ?_
    apply Exists.intro
    refine ⟨fun vs x hR hF K hK => ?_, ?_⟩
    · have f8 := hF 4 _ _ rfl rfl; have f12 := hF 0 _ _ rfl rfl; clear hF
      go_simp
      exact hK _ _ (Grow.refl _) rfl
    refine Plan.det 15 rfl (Grow.refl) ?_
    apply Exists.intro
    refine ⟨fun vs x hR hF K hK => ?_, ?_⟩
    · have f8 := hF 5 _ _ rfl rfl; have f13 := hF 0 _ _ rfl rfl; clear hF
      go_simp
      exact hK _ _ (Grow.refl _) rfl
    refine Plan.det 16 rfl (Grow.refl) ?_
    apply Exists.intro
    refine ⟨fun vs x hR hF K hK => ?_, ?_⟩
    · have f14 := hF 0 _ _ rfl rfl; have hc := HC.out x hR; clear hF
      go_simp
      exact hK _ _ (Grow.refl _) rfl
    refine Plan.det 17 rfl (Grow.refl) ?_
    apply Exists.intro
    refine ⟨fun vs x hR hF K hK => ?_, ?_⟩
    · have f14 := hF 1 _ _ rfl rfl; have f15 := hF 0 _ _ rfl rfl; clear hF
      go_simp
      refine (HCA.out x hR).mono ?_
      rintro e x1 ⟨rfl, hbe⟩
      exact ⟨_, rfl, hK _ _ hbe rfl⟩
    refine Plan.det 18 rfl (Grow.refl) ?_
    apply Exists.intro
    refine ⟨fun vs x hR hF K hK => ?_, ?_⟩
    · have f14 := hF 2 _ _ rfl rfl; have f16 := hF 0 _ _ rfl rfl; clear hF
      go_simp
      exact hK _ _ (Grow.refl _) rfl
    refine Plan.det 19 rfl (Grow.refl) ?_
    apply Exists.intro
    refine ⟨fun vs x hR hF K hK => ?_, ?_⟩
    · have f14 := hF 3 _ _ rfl rfl; have f17 := hF 0 _ _ rfl rfl; clear hF
      go_simp
      exact hK _ _ (Grow.refl _) rfl
    refine Plan.det 20 rfl (Grow.refl) ?_
    apply Exists.intro
    refine ⟨fun vs x hR hF K hK => ?_, ?_⟩
    · have f16 := hF 2 _ _ rfl rfl; have f18 := hF 0 _ _ rfl rfl; clear hF
      go_simp
      exact hK _ _ (Grow.refl _) rfl
    refine Plan.det 21 rfl (Grow.refl) ?_
    apply Exists.intro
    refine ⟨fun vs x hR hF K hK => ?_, ?_⟩
    · have f19 := hF 0 _ _ rfl rfl; have hc := HC.out x hR; clear hF
      go_simp
      exact hK _ _ (Grow.refl _) rfl
    refine Plan.det 22 rfl (Grow.refl) ?_
    apply Exists.intro
    refine ⟨fun vs x hR hF K hK => ?_, ?_⟩
    · have f19 := hF 1 _ _ rfl rfl; have f20 := hF 0 _ _ rfl rfl; clear hF
      go_simp
      exact hK _ _ (Grow.refl _) rfl
    refine Plan.det 23 rfl (Grow.refl) ?_
    apply Exists.intro
    refine ⟨fun vs x hR hF K hK => ?_, ?_⟩
    · have f19 := hF 2 _ _ rfl rfl; have f21 := hF 0 _ _ rfl rfl; clear hF
      go_simp
      exact hK _ _ (Grow.refl _) rfl
    refine Plan.det 24 rfl (Grow.refl) ?_
    apply Exists.intro
    refine ⟨fun vs x hR hF K hK => ?_, ?_⟩
    · have f19 := hF 3 _ _ rfl rfl; have f22 := hF 0 _ _ rfl rfl; clear hF
      go_simp
      exact hK _ _ (Grow.refl _) rfl
    refine Plan.det 25 rfl (Grow.refl) ?_
    apply Exists.intro
    refine ⟨fun vs x hR hF K hK => ?_, ?_⟩
    · have f21 := hF 2 _ _ rfl rfl; have f23 := hF 0 _ _ rfl rfl; clear hF
      go_simp
      exact hK _ _ (Grow.refl _) rfl
    refine Plan.det 26 rfl (Grow.refl) ?_
    apply Exists.intro
    refine ⟨fun vs x hR hF K hK => ?_, ?_⟩
    · have f24 := hF 0 _ _ rfl rfl; have hc := HC.out x hR; clear hF
      go_simp
      exact hK _ _ (Grow.refl _) rfl
    refine Plan.det 27 rfl (Grow.refl) ?_
    apply Exists.intro
    refine ⟨fun vs x hR hF K hK => ?_, ?_⟩
    · have f24 := hF 1 _ _ rfl rfl; have f25 := hF 0 _ _ rfl rfl; clear hF
      go_simp
      exact hK _ _ (Grow.refl _) rfl
    refine Plan.det 28 rfl (Grow.refl) ?_
    apply Exists.intro
    refine ⟨fun vs x hR hF K hK => ?_, ?_⟩
    · have f24 := hF 2 _ _ rfl rfl; have hc := HC.out x hR; clear hF
      go_simp
      exact hK _ _ (Grow.refl _) rfl
    refine Plan.det 29 rfl (Grow.refl) ?_
    apply Exists.intro
    refine ⟨fun vs x hR hF K hK => ?_, ?_⟩
    · have f24 := hF 3 _ _ rfl rfl; have f26 := hF 1 _ _ rfl rfl; have f27 := hF 0 _ _ rfl rfl; clear hF
      go_simp
      exact hK _ _ (Grow.refl _) rfl
    refine Plan.det 30 rfl (Grow.refl) ?_
    apply Exists.intro
    refine ⟨fun vs x hR hF K hK => ?_, ?_⟩
    · have f24 := hF 4 _ _ rfl rfl; have f26 := hF 2 _ _ rfl rfl; have f28 := hF 0 _ _ rfl rfl; clear hF
      go_simp
      exact hK _ _ (Grow.refl _) rfl
    refine Plan.det 31 rfl (Grow.refl) ?_
    apply Exists.intro
    refine ⟨fun vs x hR hF K hK => ?_, ?_⟩
    · have f24 := hF 5 _ _ rfl rfl; have f29 := hF 0 _ _ rfl rfl; clear hF
      go_simp
      exact hK _ _ (Grow.refl _) rfl
    refine Plan.det 32 rfl (Grow.refl) ?_
    apply Exists.intro
    refine ⟨fun vs x hR hF K hK => ?_, ?_⟩
    · have f24 := hF 6 _ _ rfl rfl; have f30 := hF 0 _ _ rfl rfl; clear hF
      go_simp
      exact hK _ _ (Grow.refl _) rfl
    refine Plan.nil (fun vs x hR hF => ?_)
    have f0 := hF 31 _ _ rfl; have f1 := hF 30 _ _ rfl; have f2 := hF 29 _ _ rfl; have f3 := hF 28 _ _ rfl; have f4 := hF 27 _ _ rfl; have f5 := hF 26 _ _ rfl; have f6 := hF 25 _ _ rfl; have f7 := hF 24 _ _ rfl; have f8 := hF 23 _ _ rfl; have f9 := hF 22 _ _ rfl; have f10 := hF 21 _ _ rfl; have f11 := hF 20 _ _ rfl; have f12 := hF 19 _ _ rfl; have f13 := hF 18 _ _ rfl; have f14 := hF 17 _ _ rfl; have f15 := hF 16 _ _ rfl; have f16 := hF 15 _ _ rfl; have f17 := hF 14 _ _ rfl; have f18 := hF 13 _ _ rfl; have f19 := hF 12 _ _ rfl; have f20 := hF 11 _ _ rfl; have f21 := hF 10 _ _ rfl; have f22 := hF 9 _ _ rfl; have f23 := hF 8 _ _ rfl; have f24 := hF 7 _ _ rfl; have f25 := hF 6 _ _ rfl; have f26 := hF 5 _ _ rfl; have f27 := hF 4 _ _ rfl; have f28 := hF 3 _ _ rfl; have f29 := hF 2 _ _ rfl; have f30 := hF 1 _ _ rfl; have f31 := hF 0 _ _ rfl
    clear hF
    simp only [f0, f1, f2, f3, f4, f5, f6, f7, f8, f9, f10, f11, f12, f13, f14, f15, f16, f17, f18, f19, f20, f21, f22, f23, f24, f25, f26, f27, f28, f29, f30, f31]
    clear f0 f1 f2 f3 f4 f5 f6 f7 f8 f9 f10 f11 f12 f13 f14 f15 f16 f17 f18 f19 f20 f21 f22 f23 f24 f25 f26 f27 f28 f29 f30 f31
    simp only [List.drop_succ_cons, List.drop_zero]
    have HLX := hid (HL.out.later (grow_below hR))
    clear HC hR
    go_wp2_with fail
    refine (HAW.out _ HLX.out).mono ?_
    rintro e w9 ⟨rfl, hb⟩
    have HB := hid hb
    clear hb
    go_wp2_with fail
    go_ret
    exact ⟨rfl, HB.out⟩
  rw [hea] at HCA
  have HEA := hid hea
  clear hea
  by_cases heb : b.err = 0
  case neg =>
    obtain ⟨eb, heb2⟩ : ∃ eb, eb = b.err := ⟨_, rfl⟩
    rw [← heb2] at heb HCB
    have hbb : (eb != 0) = true := by simpa using heb
    clear heb2
    go_wp2_with fail
    refine wp_region_inv 32 (Grow) (by kernel_rfl) (by kernel_rfl) (Grow.refl) (fun _ _ _ => Grow.trans) ?_
    simp only [fill, dstOf, Act.put, List.take_succ_cons, List.take_zero, List.getElem?_toArray, List.getElem?_cons_zero, List.getElem?_cons_succ, Option.bind_some, List.setIfInBounds_toArray, List.set_cons_zero, List.set_cons_succ]
    refine Plan.det 1 rfl (Grow.refl) ?_
    apply Exists.intro
    refine ⟨fun vs x hR hF K hK => ?_, ?_⟩
    · have hc := HC.out x hR; clear hF
      go_simp
      exact hK _ _ (Grow.refl _) rfl
    refine Plan.det 2 rfl (Grow.refl) ?_
    apply Exists.intro
    refine ⟨fun vs x hR hF K hK => ?_, ?_⟩
    · have f0 := hF 0 _ _ rfl rfl; clear hF
      go_simp
      refine (HSA.out x hR).mono ?_
      rintro e x1 ⟨rfl, hbe⟩
      exact ⟨_, rfl, hK _ _ hbe rfl⟩
    refine Plan.det 3 rfl (Grow.refl) ?_
    apply Exists.intro
    refine ⟨fun vs x hR hF K hK => ?_, ?_⟩
    · have f1 := hF 0 _ _ rfl rfl; clear hF
      go_simp
      exact hK _ _ (Grow.refl _) rfl
    refine Plan.det 4 rfl (Grow.refl) ?_
    apply Exists.intro
    refine ⟨fun vs x hR hF K hK => ?_, ?_⟩
    · have f1 := hF 1 _ _ rfl rfl; have f2 := hF 0 _ _ rfl rfl; clear hF
      go_simp
      exact hK _ _ (Grow.refl _) rfl
    refine Plan.det 5 rfl (Grow.refl) ?_
    apply Exists.intro
    refine ⟨fun vs x hR hF K hK => ?_, ?_⟩
    · have f3 := hF 0 _ _ rfl rfl; have hc := HC.out x hR; clear hF
      go_simp
      exact hK _ _ (Grow.refl _) rfl
    refine Plan.det 6 rfl (Grow.refl) ?_
    apply Exists.intro
    refine ⟨fun vs x hR hF K hK => ?_, ?_⟩
    · have f3 := hF 1 _ _ rfl rfl; have f4 := hF 0 _ _ rfl rfl; clear hF
      go_simp
      refine (HSB.out x hR).mono ?_
      rintro e x1 ⟨rfl, hbe⟩
      exact ⟨_, rfl, hK _ _ hbe rfl⟩
    refine Plan.det 7 rfl (Grow.refl) ?_
    apply Exists.intro
    refine ⟨fun vs x hR hF K hK => ?_, ?_⟩
    · have f3 := hF 2 _ _ rfl rfl; have f5 := hF 0 _ _ rfl rfl; clear hF
      go_simp
      exact hK _ _ (Grow.refl _) rfl
    refine Plan.det 8 rfl (Grow.refl) ?_
    apply Exists.intro
    refine ⟨fun vs x hR hF K hK => ?_, ?_⟩
    · have f3 := hF 3 _ _ rfl rfl; have f6 := hF 0 _ _ rfl rfl; clear hF
      go_simp
      exact hK _ _ (Grow.refl _) rfl
    refine Plan.det 9 rfl (Grow.refl) ?_
    apply Exists.intro
    refine ⟨fun vs x hR hF K hK => ?_, ?_⟩
    · have f5 := hF 2 _ _ rfl rfl; have f7 := hF 0 _ _ rfl rfl; clear hF
      go_simp
      exact hK _ _ (Grow.refl _) rfl
    refine Plan.det 10 rfl (Grow.refl) ?_
    apply Exists.intro
    refine ⟨fun vs x hR hF K hK => ?_, ?_⟩
    · have f8 := hF 0 _ _ rfl rfl; clear hF
      go_simp
      exact hK _ _ (Grow.refl _) rfl
    refine Plan.det 11 rfl (Grow.refl) ?_
    apply Exists.intro
    refine ⟨fun vs x hR hF K hK => ?_, ?_⟩
    · have f8 := hF 1 _ _ rfl rfl; have f9 := hF 0 _ _ rfl rfl; have hc := HC.out x hR; clear hF
      go_simp
      exact hK _ _ (Grow.refl _) rfl
    refine Plan.det 12 rfl (Grow.refl) ?_
    apply Exists.intro
    refine ⟨fun vs x hR hF K hK => ?_, ?_⟩
    · have f8 := hF 2 _ _ rfl rfl; have f10 := hF 0 _ _ rfl rfl; clear hF
      go_simp
      exact hK _ _ (Grow.refl _) rfl
    refine Plan.det 13 rfl (Grow.refl) ?_
    apply Exists.intro
    refine ⟨fun vs x hR hF K hK => ?_, ?_⟩
    · have f8 := hF 3 _ _ rfl rfl; have f11 := hF 0 _ _ rfl rfl; clear hF
      go_simp
      exact hK _ _ (Grow.refl _) rfl
    refine Plan.det 14 rfl (Grow.refl) ?_
    apply Exists.intro
    refine ⟨fun vs x hR hF K hK => ?_, ?_⟩
    · have f8 := hF 4 _ _ rfl rfl; have f12 := hF 0 _ _ rfl rfl; clear hF
      go_simp
      exact hK _ _ (Grow.refl _) rfl
    refine Plan.det 15 rfl (Grow.refl) ?_
    apply Exists.intro
    refine ⟨fun vs x hR hF K hK => ?_, ?_⟩
    · have f8 := hF 5 _ _ rfl rfl; have f13 := hF 0 _ _ rfl rfl; clear hF
      go_simp
      exact hK _ _ (Grow.refl _) rfl
    refine Plan.det 16 rfl (Grow.refl) ?_
    apply Exists.intro
    refine ⟨fun vs x hR hF K hK => ?_, ?_⟩
    · have f14 := hF 0 _ _ rfl rfl; have hc := HC.out x hR; clear hF
      go_simp
      exact hK _ _ (Grow.refl _) rfl
    refine Plan.det 17 rfl (Grow.refl) ?_
    apply Exists.intro
    refine ⟨fun vs x hR hF K hK => ?_, ?_⟩
    · have f14 := hF 1 _ _ rfl rfl; have f15 := hF 0 _ _ rfl rfl; clear hF
      go_simp
      refine (HCA.out x hR).mono ?_
      rintro e x1 ⟨rfl, hbe⟩
      exact ⟨_, rfl, hK _ _ hbe rfl⟩
    refine Plan.det 18 rfl (Grow.refl) ?_
    apply Exists.intro
    refine ⟨fun vs x hR hF K hK => ?_, ?_⟩
    · have f14 := hF 2 _ _ rfl rfl; have f16 := hF 0 _ _ rfl rfl; clear hF
      go_simp
      exact hK _ _ (Grow.refl _) rfl
    refine Plan.det 19 rfl (Grow.refl) ?_
    apply Exists.intro
    refine ⟨fun vs x hR hF K hK => ?_, ?_⟩
    · have f14 := hF 3 _ _ rfl rfl; have f17 := hF 0 _ _ rfl rfl; clear hF
      go_simp
      exact hK _ _ (Grow.refl _) rfl
    refine Plan.det 20 rfl (Grow.refl) ?_
    apply Exists.intro
    refine ⟨fun vs x hR hF K hK => ?_, ?_⟩
    · have f16 := hF 2 _ _ rfl rfl; have f18 := hF 0 _ _ rfl rfl; clear hF
      go_simp
      exact hK _ _ (Grow.refl _) rfl
    refine Plan.det 21 rfl (Grow.refl) ?_
    apply Exists.intro
    refine ⟨fun vs x hR hF K hK => ?_, ?_⟩
    · have f19 := hF 0 _ _ rfl rfl; have hc := HC.out x hR; clear hF
      go_simp
      exact hK _ _ (Grow.refl _) rfl
    refine Plan.det 22 rfl (Grow.refl) ?_
    apply Exists.intro
    refine ⟨fun vs x hR hF K hK => ?_, ?_⟩
    · have f19 := hF 1 _ _ rfl rfl; have f20 := hF 0 _ _ rfl rfl; clear hF
      go_simp
      refine (HCB.out x hR).mono ?_
      rintro e x1 ⟨rfl, hbe⟩
      exact ⟨_, rfl, hK _ _ hbe rfl⟩
    refine Plan.det 23 rfl (Grow.refl) ?_
    apply Exists.intro
    refine ⟨fun vs x hR hF K hK => ?_, ?_⟩
    · have f19 := hF 2 _ _ rfl rfl; have f21 := hF 0 _ _ rfl rfl; clear hF
      go_simp
      exact hK _ _ (Grow.refl _) rfl
    refine Plan.det 24 rfl (Grow.refl) ?_
    apply Exists.intro
    refine ⟨fun vs x hR hF K hK => ?_, ?_⟩
    · have f19 := hF 3 _ _ rfl rfl; have f22 := hF 0 _ _ rfl rfl; clear hF
      go_simp
      exact hK _ _ (Grow.refl _) rfl
    refine Plan.det 25 rfl (Grow.refl) ?_
    apply Exists.intro
    refine ⟨fun vs x hR hF K hK => ?_, ?_⟩
    · have f21 := hF 2 _ _ rfl rfl; have f23 := hF 0 _ _ rfl rfl; clear hF
      go_simp
      exact hK _ _ (Grow.refl _) rfl
    refine Plan.det 26 rfl (Grow.refl) ?_
    apply Exists.intro
    refine ⟨fun vs x hR hF K hK => ?_, ?_⟩
    · have f24 := hF 0 _ _ rfl rfl; have hc := HC.out x hR; clear hF
      go_simp
      exact hK _ _ (Grow.refl _) rfl
    refine Plan.det 27 rfl (Grow.refl) ?_
    apply Exists.intro
    refine ⟨fun vs x hR hF K hK => ?_, ?_⟩
    · have f24 := hF 1 _ _ rfl rfl; have f25 := hF 0 _ _ rfl rfl; clear hF
      go_simp
      exact hK _ _ (Grow.refl _) rfl
    refine Plan.det 28 rfl (Grow.refl) ?_
    apply Exists.intro
    refine ⟨fun vs x hR hF K hK => ?_, ?_⟩
    · have f24 := hF 2 _ _ rfl rfl; have hc := HC.out x hR; clear hF
      go_simp
      exact hK _ _ (Grow.refl _) rfl
    refine Plan.det 29 rfl (Grow.refl) ?_
    apply Exists.intro
    refine ⟨fun vs x hR hF K hK => ?_, ?_⟩
    · have f24 := hF 3 _ _ rfl rfl; have f26 := hF 1 _ _ rfl rfl; have f27 := hF 0 _ _ rfl rfl; clear hF
      go_simp
      exact hK _ _ (Grow.refl _) rfl
    refine Plan.det 30 rfl (Grow.refl) ?_
    apply Exists.intro
    refine ⟨fun vs x hR hF K hK => ?_, ?_⟩
    · have f24 := hF 4 _ _ rfl rfl; have f26 := hF 2 _ _ rfl rfl; have f28 := hF 0 _ _ rfl rfl; clear hF
      go_simp
      exact hK _ _ (Grow.refl _) rfl
    refine Plan.det 31 rfl (Grow.refl) ?_
    apply Exists.intro
    refine ⟨fun vs x hR hF K hK => ?_, ?_⟩
    · have f24 := hF 5 _ _ rfl rfl; have f29 := hF 0 _ _ rfl rfl; clear hF
      go_simp
      exact hK _ _ (Grow.refl _) rfl
    refine Plan.det 32 rfl (Grow.refl) ?_
    apply Exists.intro
    refine ⟨fun vs x hR hF K hK => ?_, ?_⟩
    · have f24 := hF 6 _ _ rfl rfl; have f30 := hF 0 _ _ rfl rfl; clear hF
      go_simp
      exact hK _ _ (Grow.refl _) rfl
    refine Plan.nil (fun vs x hR hF => ?_)
    have f0 := hF 31 _ _ rfl; have f1 := hF 30 _ _ rfl; have f2 := hF 29 _ _ rfl; have f3 := hF 28 _ _ rfl; have f4 := hF 27 _ _ rfl; have f5 := hF 26 _ _ rfl; have f6 := hF 25 _ _ rfl; have f7 := hF 24 _ _ rfl; have f8 := hF 23 _ _ rfl; have f9 := hF 22 _ _ rfl; have f10 := hF 21 _ _ rfl; have f11 := hF 20 _ _ rfl; have f12 := hF 19 _ _ rfl; have f13 := hF 18 _ _ rfl; have f14 := hF 17 _ _ rfl; have f15 := hF 16 _ _ rfl; have f16 := hF 15 _ _ rfl; have f17 := hF 14 _ _ rfl; have f18 := hF 13 _ _ rfl; have f19 := hF 12 _ _ rfl; have f20 := hF 11 _ _ rfl; have f21 := hF 10 _ _ rfl; have f22 := hF 9 _ _ rfl; have f23 := hF 8 _ _ rfl; have f24 := hF 7 _ _ rfl; have f25 := hF 6 _ _ rfl; have f26 := hF 5 _ _ rfl; have f27 := hF 4 _ _ rfl; have f28 := hF 3 _ _ rfl; have f29 := hF 2 _ _ rfl; have f30 := hF 1 _ _ rfl; have f31 := hF 0 _ _ rfl
    clear hF
    simp only [f0, f1, f2, f3, f4, f5, f6, f7, f8, f9, f10, f11, f12, f13, f14, f15, f16, f17, f18, f19, f20, f21, f22, f23, f24, f25, f26, f27, f28, f29, f30, f31]
    clear f0 f1 f2 f3 f4 f5 f6 f7 f8 f9 f10 f11 f12 f13 f14 f15 f16 f17 f18 f19 f20 f21 f22 f23 f24 f25 f26 f27 f28 f29 f30 f31
    simp only [List.drop_succ_cons, List.drop_zero]
    have HLX := hid (HL.out.later (grow_below hR))
    clear HC hR
    go_wp2_with fail
    refine (HAW.out _ HLX.out).mono ?_
    rintro e w9 ⟨rfl, hb⟩
    have HB := hid hb
    clear hb
    go_wp2_with fail
    go_ret
    exact ⟨rfl, HB.out⟩
  rw [heb] at HCB
  have HEB := hid heb
  clear heb
  have HGA := hid (fun (x : World) (hx : Grow w1.drew x) => GroupsRef_any a x [.int .i64 pa.op, .int .u64 pa.set.a, .int .u64 pa.set.b, .int .u64 pa.set.c, .int .u64 pa.set.d, .int .i64 pa.lo, .int .i64 pa.hi, .int .i64 pa.gr, .slice aa ma ca] (HL.out.later (grow_below hx)).2.2.1.1 (by have := HZA.out; omega))
  have HGB := hid (fun (x : World) (hx : Grow w1.drew x) => GroupsRef_any b x [.int .i64 pb.op, .int .u64 pb.set.a, .int .u64 pb.set.b, .int .u64 pb.set.c, .int .u64 pb.set.d, .int .i64 pb.lo, .int .i64 pb.hi, .int .i64 pb.gr, .slice ab mb cb] (HL.out.later (grow_below hx)).2.2.1.2 (by have := HZB.out; omega))
  have hg9a := (Re.ok_err HEA.out).2.1
  have hg9b := (Re.ok_err HEB.out).2.1
  obtain ⟨ga, hga⟩ : ∃ g, g = a.groups := ⟨_, rfl⟩
  obtain ⟨gb, hgb⟩ : ∃ g, g = b.groups := ⟨_, rfl⟩
  rw [← hga] at HGA hg9a
  rw [← hgb] at HGB hg9b
  have HG0 := hid (⟨hga, hgb⟩ : _ ∧ _)
  clear hga hgb
  have hgw : IntKind.i64.wrap ((ga : Int) + (gb : Int)) = (ga : Int) + (gb : Int) := by rw [IntKind.wrap_i64]; omega
  by_cases hg0 : ga + gb = 0
  case neg =>
    have hgI : (0 : Int) < (ga : Int) + (gb : Int) := by omega
    have hgN : 0 < ga + gb := by omega
    go_wp2_with fail
    refine wp_region_inv 32 (Grow) (by kernel_rfl) (by kernel_rfl) (Grow.refl) (fun _ _ _ => Grow.trans) ?_
    simp only [fill, dstOf, Act.put, List.take_succ_cons, List.take_zero, List.getElem?_toArray, List.getElem?_cons_zero, List.getElem?_cons_succ, Option.bind_some, List.setIfInBounds_toArray, List.set_cons_zero, List.set_cons_succ]
    refine Plan.det 1 rfl (Grow.refl) ?_
    apply Exists.intro
    refine ⟨fun vs x hR hF K hK => ?_, ?_⟩
    · have hc := HC.out x hR; clear hF
      go_simp
      exact hK _ _ (Grow.refl _) rfl
    refine Plan.det 2 rfl (Grow.refl) ?_
    apply Exists.intro
    refine ⟨fun vs x hR hF K hK => ?_, ?_⟩
    · have f0 := hF 0 _ _ rfl rfl; clear hF
      go_simp
      refine (HSA.out x hR).mono ?_
      rintro e x1 ⟨rfl, hbe⟩
      exact ⟨_, rfl, hK _ _ hbe rfl⟩
    refine Plan.det 3 rfl (Grow.refl) ?_
    apply Exists.intro
    refine ⟨fun vs x hR hF K hK => ?_, ?_⟩
    · have f1 := hF 0 _ _ rfl rfl; clear hF
      go_simp
      exact hK _ _ (Grow.refl _) rfl
    refine Plan.det 4 rfl (Grow.refl) ?_
    apply Exists.intro
    refine ⟨fun vs x hR hF K hK => ?_, ?_⟩
    · have f1 := hF 1 _ _ rfl rfl; have f2 := hF 0 _ _ rfl rfl; clear hF
      go_simp
      exact hK _ _ (Grow.refl _) rfl
    refine Plan.det 5 rfl (Grow.refl) ?_
    apply Exists.intro
    refine ⟨fun vs x hR hF K hK => ?_, ?_⟩
    · have f3 := hF 0 _ _ rfl rfl; have hc := HC.out x hR; clear hF
      go_simp
      exact hK _ _ (Grow.refl _) rfl
    refine Plan.det 6 rfl (Grow.refl) ?_
    apply Exists.intro
    refine ⟨fun vs x hR hF K hK => ?_, ?_⟩
    · have f3 := hF 1 _ _ rfl rfl; have f4 := hF 0 _ _ rfl rfl; clear hF
      go_simp
      refine (HSB.out x hR).mono ?_
      rintro e x1 ⟨rfl, hbe⟩
      exact ⟨_, rfl, hK _ _ hbe rfl⟩
    refine Plan.det 7 rfl (Grow.refl) ?_
    apply Exists.intro
    refine ⟨fun vs x hR hF K hK => ?_, ?_⟩
    · have f3 := hF 2 _ _ rfl rfl; have f5 := hF 0 _ _ rfl rfl; clear hF
      go_simp
      exact hK _ _ (Grow.refl _) rfl
    refine Plan.det 8 rfl (Grow.refl) ?_
    apply Exists.intro
    refine ⟨fun vs x hR hF K hK => ?_, ?_⟩
    · have f3 := hF 3 _ _ rfl rfl; have f6 := hF 0 _ _ rfl rfl; clear hF
      go_simp
      exact hK _ _ (Grow.refl _) rfl
    refine Plan.det 9 rfl (Grow.refl) ?_
    apply Exists.intro
    refine ⟨fun vs x hR hF K hK => ?_, ?_⟩
    · have f5 := hF 2 _ _ rfl rfl; have f7 := hF 0 _ _ rfl rfl; clear hF
      go_simp
      exact hK _ _ (Grow.refl _) rfl
    refine Plan.det 10 rfl (Grow.refl) ?_
    apply Exists.intro
    refine ⟨fun vs x hR hF K hK => ?_, ?_⟩
    · have f8 := hF 0 _ _ rfl rfl; clear hF
      go_simp
      exact hK _ _ (Grow.refl _) rfl
    refine Plan.det 11 rfl (Grow.refl) ?_
    apply Exists.intro
    refine ⟨fun vs x hR hF K hK => ?_, ?_⟩
    · have f8 := hF 1 _ _ rfl rfl; have f9 := hF 0 _ _ rfl rfl; have hc := HC.out x hR; clear hF
      go_simp
      exact hK _ _ (Grow.refl _) rfl
    refine Plan.det 12 rfl (Grow.refl) ?_
    apply Exists.intro
    refine ⟨fun vs x hR hF K hK => ?_, ?_⟩
    · have f8 := hF 2 _ _ rfl rfl; have f10 := hF 0 _ _ rfl rfl; clear hF
      go_simp
      exact hK _ _ (Grow.refl _) rfl
    refine Plan.det 13 rfl (Grow.refl) ?_
    apply Exists.intro
    refine ⟨fun vs x hR hF K hK => ?_, ?_⟩
    · have f8 := hF 3 _ _ rfl rfl; have f11 := hF 0 _ _ rfl rfl; clear hF
      go_simp
      exact hK _ _ (Grow.refl _) rfl
    refine Plan.det 14 rfl (Grow.refl) ?_
    apply Exists.intro
    refine ⟨fun vs x hR hF K hK => ?_, ?_⟩
    · have f8 := hF 4 _ _ rfl rfl; have f12 := hF 0 _ _ rfl rfl; clear hF
      go_simp
      exact hK _ _ (Grow.refl _) rfl
    refine Plan.det 15 rfl (Grow.refl) ?_
    apply Exists.intro
    refine ⟨fun vs x hR hF K hK => ?_, ?_⟩
    · have f8 := hF 5 _ _ rfl rfl; have f13 := hF 0 _ _ rfl rfl; clear hF
      go_simp
      exact hK _ _ (Grow.refl _) rfl
    refine Plan.det 16 rfl (Grow.refl) ?_
    apply Exists.intro
    refine ⟨fun vs x hR hF K hK => ?_, ?_⟩
    · have f14 := hF 0 _ _ rfl rfl; have hc := HC.out x hR; clear hF
      go_simp
      exact hK _ _ (Grow.refl _) rfl
    refine Plan.det 17 rfl (Grow.refl) ?_
    apply Exists.intro
    refine ⟨fun vs x hR hF K hK => ?_, ?_⟩
    · have f14 := hF 1 _ _ rfl rfl; have f15 := hF 0 _ _ rfl rfl; clear hF
      go_simp
      refine (HCA.out x hR).mono ?_
      rintro e x1 ⟨rfl, hbe⟩
      exact ⟨_, rfl, hK _ _ hbe rfl⟩
    refine Plan.det 18 rfl (Grow.refl) ?_
    apply Exists.intro
    refine ⟨fun vs x hR hF K hK => ?_, ?_⟩
    · have f14 := hF 2 _ _ rfl rfl; have f16 := hF 0 _ _ rfl rfl; clear hF
      go_simp
      exact hK _ _ (Grow.refl _) rfl
    refine Plan.det 19 rfl (Grow.refl) ?_
    apply Exists.intro
    refine ⟨fun vs x hR hF K hK => ?_, ?_⟩
    · have f14 := hF 3 _ _ rfl rfl; have f17 := hF 0 _ _ rfl rfl; clear hF
      go_simp
      exact hK _ _ (Grow.refl _) rfl
    refine Plan.det 20 rfl (Grow.refl) ?_
    apply Exists.intro
    refine ⟨fun vs x hR hF K hK => ?_, ?_⟩
    · have f16 := hF 2 _ _ rfl rfl; have f18 := hF 0 _ _ rfl rfl; clear hF
      go_simp
      exact hK _ _ (Grow.refl _) rfl
    refine Plan.det 21 rfl (Grow.refl) ?_
    apply Exists.intro
    refine ⟨fun vs x hR hF K hK => ?_, ?_⟩
    · have f19 := hF 0 _ _ rfl rfl; have hc := HC.out x hR; clear hF
      go_simp
      exact hK _ _ (Grow.refl _) rfl
    refine Plan.det 22 rfl (Grow.refl) ?_
    apply Exists.intro
    refine ⟨fun vs x hR hF K hK => ?_, ?_⟩
    · have f19 := hF 1 _ _ rfl rfl; have f20 := hF 0 _ _ rfl rfl; clear hF
      go_simp
      refine (HCB.out x hR).mono ?_
      rintro e x1 ⟨rfl, hbe⟩
      exact ⟨_, rfl, hK _ _ hbe rfl⟩
    refine Plan.det 23 rfl (Grow.refl) ?_
    apply Exists.intro
    refine ⟨fun vs x hR hF K hK => ?_, ?_⟩
    · have f19 := hF 2 _ _ rfl rfl; have f21 := hF 0 _ _ rfl rfl; clear hF
      go_simp
      exact hK _ _ (Grow.refl _) rfl
    refine Plan.det 24 rfl (Grow.refl) ?_
    apply Exists.intro
    refine ⟨fun vs x hR hF K hK => ?_, ?_⟩
    · have f19 := hF 3 _ _ rfl rfl; have f22 := hF 0 _ _ rfl rfl; clear hF
      go_simp
      exact hK _ _ (Grow.refl _) rfl
    refine Plan.det 25 rfl (Grow.refl) ?_
    apply Exists.intro
    refine ⟨fun vs x hR hF K hK => ?_, ?_⟩
    · have f21 := hF 2 _ _ rfl rfl; have f23 := hF 0 _ _ rfl rfl; clear hF
      go_simp
      exact hK _ _ (Grow.refl _) rfl
    refine Plan.det 26 rfl (Grow.refl) ?_
    apply Exists.intro
    refine ⟨fun vs x hR hF K hK => ?_, ?_⟩
    · have f24 := hF 0 _ _ rfl rfl; have hc := HC.out x hR; clear hF
      go_simp
      exact hK _ _ (Grow.refl _) rfl
    refine Plan.det 27 rfl (Grow.refl) ?_
    apply Exists.intro
    refine ⟨fun vs x hR hF K hK => ?_, ?_⟩
    · have f24 := hF 1 _ _ rfl rfl; have f25 := hF 0 _ _ rfl rfl; clear hF
      go_simp
      refine (HGA.out x hR).mono ?_
      rintro e x1 ⟨rfl, hbe⟩
      exact ⟨_, rfl, hK _ _ hbe rfl⟩
    refine Plan.det 28 rfl (Grow.refl) ?_
    apply Exists.intro
    refine ⟨fun vs x hR hF K hK => ?_, ?_⟩
    · have f24 := hF 2 _ _ rfl rfl; have hc := HC.out x hR; clear hF
      go_simp
      exact hK _ _ (Grow.refl _) rfl
    refine Plan.det 29 rfl (Grow.refl) ?_
    apply Exists.intro
    refine ⟨fun vs x hR hF K hK => ?_, ?_⟩
    · have f24 := hF 3 _ _ rfl rfl; have f26 := hF 1 _ _ rfl rfl; have f27 := hF 0 _ _ rfl rfl; clear hF
      go_simp
      refine (HGB.out x hR).mono ?_
      rintro e x1 ⟨rfl, hbe⟩
      exact ⟨_, rfl, hK _ _ hbe rfl⟩
    refine Plan.det 30 rfl (Grow.refl) ?_
    apply Exists.intro
    refine ⟨fun vs x hR hF K hK => ?_, ?_⟩
    · have f24 := hF 4 _ _ rfl rfl; have f26 := hF 2 _ _ rfl rfl; have f28 := hF 0 _ _ rfl rfl; clear hF
      go_simp
      exact hK _ _ (Grow.refl _) rfl
    refine Plan.det 31 rfl (Grow.refl) ?_
    apply Exists.intro
    refine ⟨fun vs x hR hF K hK => ?_, ?_⟩
    · have f24 := hF 5 _ _ rfl rfl; have f29 := hF 0 _ _ rfl rfl; clear hF
      go_simp
      exact hK _ _ (Grow.refl _) rfl
    refine Plan.det 32 rfl (Grow.refl) ?_
    apply Exists.intro
    refine ⟨fun vs x hR hF K hK => ?_, ?_⟩
    · have f24 := hF 6 _ _ rfl rfl; have f30 := hF 0 _ _ rfl rfl; clear hF
      go_simp
      exact hK _ _ (Grow.refl _) rfl
    refine Plan.nil (fun vs x hR hF => ?_)
    have f0 := hF 31 _ _ rfl; have f1 := hF 30 _ _ rfl; have f2 := hF 29 _ _ rfl; have f3 := hF 28 _ _ rfl; have f4 := hF 27 _ _ rfl; have f5 := hF 26 _ _ rfl; have f6 := hF 25 _ _ rfl; have f7 := hF 24 _ _ rfl; have f8 := hF 23 _ _ rfl; have f9 := hF 22 _ _ rfl; have f10 := hF 21 _ _ rfl; have f11 := hF 20 _ _ rfl; have f12 := hF 19 _ _ rfl; have f13 := hF 18 _ _ rfl; have f14 := hF 17 _ _ rfl; have f15 := hF 16 _ _ rfl; have f16 := hF 15 _ _ rfl; have f17 := hF 14 _ _ rfl; have f18 := hF 13 _ _ rfl; have f19 := hF 12 _ _ rfl; have f20 := hF 11 _ _ rfl; have f21 := hF 10 _ _ rfl; have f22 := hF 9 _ _ rfl; have f23 := hF 8 _ _ rfl; have f24 := hF 7 _ _ rfl; have f25 := hF 6 _ _ rfl; have f26 := hF 5 _ _ rfl; have f27 := hF 4 _ _ rfl; have f28 := hF 3 _ _ rfl; have f29 := hF 2 _ _ rfl; have f30 := hF 1 _ _ rfl; have f31 := hF 0 _ _ rfl
    clear hF
    simp only [f0, f1, f2, f3, f4, f5, f6, f7, f8, f9, f10, f11, f12, f13, f14, f15, f16, f17, f18, f19, f20, f21, f22, f23, f24, f25, f26, f27, f28, f29, f30, f31]
    clear f0 f1 f2 f3 f4 f5 f6 f7 f8 f9 f10 f11 f12 f13 f14 f15 f16 f17 f18 f19 f20 f21 f22 f23 f24 f25 f26 f27 f28 f29 f30 f31
    simp only [List.drop_succ_cons, List.drop_zero]
    have HLX := hid (HL.out.later (grow_below hR))
    clear HC hR
    go_wp2_with fail
    refine (HAW.out _ HLX.out).mono ?_
    rintro e w9 ⟨rfl, hb⟩
    have HB := hid hb
    clear hb
    go_wp2_with fail
    go_ret
    exact ⟨rfl, HB.out⟩
  obtain rfl : ga = 0 := by omega
  obtain rfl : gb = 0 := by omega
  have HLAW := hid (composes_law (at_ := at_) (lines := lines) HEA.out HEB.out HG0.out.1.symm HG0.out.2.symm HZA.out HZB.out hs)
  clear hg9a hg9b hgw hg0
  go_wp2_with fail
  refine wp_region_inv 32 (Grow) (by kernel_rfl) (by kernel_rfl) (Grow.refl) (fun _ _ _ => Grow.trans) ?_
  simp only [fill, dstOf, Act.put, List.take_succ_cons, List.take_zero, List.getElem?_toArray, List.getElem?_cons_zero, List.getElem?_cons_succ, Option.bind_some, List.setIfInBounds_toArray, List.set_cons_zero, List.set_cons_succ]
  refine Plan.det 1 rfl (Grow.refl) ?_
  apply Exists.intro
  refine ⟨fun vs x hR hF K hK => ?_, ?_⟩
  · have hc := HC.out x hR; clear hF
    go_simp
    exact hK _ _ (Grow.refl _) rfl
  refine Plan.det 2 rfl (Grow.refl) ?_
  apply Exists.intro
  refine ⟨fun vs x hR hF K hK => ?_, ?_⟩
  · have f0 := hF 0 _ _ rfl rfl; clear hF
    go_simp
    refine (HSA.out x hR).mono ?_
    rintro e x1 ⟨rfl, hbe⟩
    exact ⟨_, rfl, hK _ _ hbe rfl⟩
  refine Plan.det 3 rfl (Grow.refl) ?_
  apply Exists.intro
  refine ⟨fun vs x hR hF K hK => ?_, ?_⟩
  · have f1 := hF 0 _ _ rfl rfl; clear hF
    go_simp
    exact hK _ _ (Grow.refl _) rfl
  refine Plan.det 4 rfl (Grow.refl) ?_
  apply Exists.intro
  refine ⟨fun vs x hR hF K hK => ?_, ?_⟩
  · have f1 := hF 1 _ _ rfl rfl; have f2 := hF 0 _ _ rfl rfl; clear hF
    go_simp
    exact hK _ _ (Grow.refl _) rfl
  refine Plan.det 5 rfl (Grow.refl) ?_
  apply Exists.intro
  refine ⟨fun vs x hR hF K hK => ?_, ?_⟩
  · have f3 := hF 0 _ _ rfl rfl; have hc := HC.out x hR; clear hF
    go_simp
    exact hK _ _ (Grow.refl _) rfl
  refine Plan.det 6 rfl (Grow.refl) ?_
  apply Exists.intro
  refine ⟨fun vs x hR hF K hK => ?_, ?_⟩
  · have f3 := hF 1 _ _ rfl rfl; have f4 := hF 0 _ _ rfl rfl; clear hF
    go_simp
    refine (HSB.out x hR).mono ?_
    rintro e x1 ⟨rfl, hbe⟩
    exact ⟨_, rfl, hK _ _ hbe rfl⟩
  refine Plan.det 7 rfl (Grow.refl) ?_
  apply Exists.intro
  refine ⟨fun vs x hR hF K hK => ?_, ?_⟩
  · have f3 := hF 2 _ _ rfl rfl; have f5 := hF 0 _ _ rfl rfl; clear hF
    go_simp
    exact hK _ _ (Grow.refl _) rfl
  refine Plan.det 8 rfl (Grow.refl) ?_
  apply Exists.intro
  refine ⟨fun vs x hR hF K hK => ?_, ?_⟩
  · have f3 := hF 3 _ _ rfl rfl; have f6 := hF 0 _ _ rfl rfl; clear hF
    go_simp
    exact hK _ _ (Grow.refl _) rfl
  refine Plan.det 9 rfl (Grow.refl) ?_
  apply Exists.intro
  refine ⟨fun vs x hR hF K hK => ?_, ?_⟩
  · have f5 := hF 2 _ _ rfl rfl; have f7 := hF 0 _ _ rfl rfl; clear hF
    go_simp
    exact hK _ _ (Grow.refl _) rfl
  refine Plan.det 10 rfl (Grow.refl) ?_
  apply Exists.intro
  refine ⟨fun vs x hR hF K hK => ?_, ?_⟩
  · have f8 := hF 0 _ _ rfl rfl; clear hF
    go_simp
    exact hK _ _ (Grow.refl _) rfl
  refine Plan.det 11 rfl (Grow.refl) ?_
  apply Exists.intro
  refine ⟨fun vs x hR hF K hK => ?_, ?_⟩
  · have f8 := hF 1 _ _ rfl rfl; have f9 := hF 0 _ _ rfl rfl; have hc := HC.out x hR; clear hF
    go_simp
    exact hK _ _ (Grow.refl _) rfl
  refine Plan.det 12 rfl (Grow.refl) ?_
  apply Exists.intro
  refine ⟨fun vs x hR hF K hK => ?_, ?_⟩
  · have f8 := hF 2 _ _ rfl rfl; have f10 := hF 0 _ _ rfl rfl; clear hF
    go_simp
    exact hK _ _ (Grow.refl _) rfl
  refine Plan.det 13 rfl (Grow.refl) ?_
  apply Exists.intro
  refine ⟨fun vs x hR hF K hK => ?_, ?_⟩
  · have f8 := hF 3 _ _ rfl rfl; have f11 := hF 0 _ _ rfl rfl; clear hF
    go_simp
    exact hK _ _ (Grow.refl _) rfl
  refine Plan.det 14 rfl (Grow.refl) ?_
  apply Exists.intro
  refine ⟨fun vs x hR hF K hK => ?_, ?_⟩
  · have f8 := hF 4 _ _ rfl rfl; have f12 := hF 0 _ _ rfl rfl; clear hF
    go_simp
    exact hK _ _ (Grow.refl _) rfl
  refine Plan.det 15 rfl (Grow.refl) ?_
  apply Exists.intro
  refine ⟨fun vs x hR hF K hK => ?_, ?_⟩
  · have f8 := hF 5 _ _ rfl rfl; have f13 := hF 0 _ _ rfl rfl; clear hF
    go_simp
    exact hK _ _ (Grow.refl _) rfl
  refine Plan.det 16 rfl (Grow.refl) ?_
  apply Exists.intro
  refine ⟨fun vs x hR hF K hK => ?_, ?_⟩
  · have f14 := hF 0 _ _ rfl rfl; have hc := HC.out x hR; clear hF
    go_simp
    exact hK _ _ (Grow.refl _) rfl
  refine Plan.det 17 rfl (Grow.refl) ?_
  apply Exists.intro
  refine ⟨fun vs x hR hF K hK => ?_, ?_⟩
  · have f14 := hF 1 _ _ rfl rfl; have f15 := hF 0 _ _ rfl rfl; clear hF
    go_simp
    refine (HCA.out x hR).mono ?_
    rintro e x1 ⟨rfl, hbe⟩
    exact ⟨_, rfl, hK _ _ hbe rfl⟩
  refine Plan.det 18 rfl (Grow.refl) ?_
  apply Exists.intro
  refine ⟨fun vs x hR hF K hK => ?_, ?_⟩
  · have f14 := hF 2 _ _ rfl rfl; have f16 := hF 0 _ _ rfl rfl; clear hF
    go_simp
    exact hK _ _ (Grow.refl _) rfl
  refine Plan.det 19 rfl (Grow.refl) ?_
  apply Exists.intro
  refine ⟨fun vs x hR hF K hK => ?_, ?_⟩
  · have f14 := hF 3 _ _ rfl rfl; have f17 := hF 0 _ _ rfl rfl; clear hF
    go_simp
    exact hK _ _ (Grow.refl _) rfl
  refine Plan.det 20 rfl (Grow.refl) ?_
  apply Exists.intro
  refine ⟨fun vs x hR hF K hK => ?_, ?_⟩
  · have f16 := hF 2 _ _ rfl rfl; have f18 := hF 0 _ _ rfl rfl; clear hF
    go_simp
    exact hK _ _ (Grow.refl _) rfl
  refine Plan.det 21 rfl (Grow.refl) ?_
  apply Exists.intro
  refine ⟨fun vs x hR hF K hK => ?_, ?_⟩
  · have f19 := hF 0 _ _ rfl rfl; have hc := HC.out x hR; clear hF
    go_simp
    exact hK _ _ (Grow.refl _) rfl
  refine Plan.det 22 rfl (Grow.refl) ?_
  apply Exists.intro
  refine ⟨fun vs x hR hF K hK => ?_, ?_⟩
  · have f19 := hF 1 _ _ rfl rfl; have f20 := hF 0 _ _ rfl rfl; clear hF
    go_simp
    refine (HCB.out x hR).mono ?_
    rintro e x1 ⟨rfl, hbe⟩
    exact ⟨_, rfl, hK _ _ hbe rfl⟩
  refine Plan.det 23 rfl (Grow.refl) ?_
  apply Exists.intro
  refine ⟨fun vs x hR hF K hK => ?_, ?_⟩
  · have f19 := hF 2 _ _ rfl rfl; have f21 := hF 0 _ _ rfl rfl; clear hF
    go_simp
    exact hK _ _ (Grow.refl _) rfl
  refine Plan.det 24 rfl (Grow.refl) ?_
  apply Exists.intro
  refine ⟨fun vs x hR hF K hK => ?_, ?_⟩
  · have f19 := hF 3 _ _ rfl rfl; have f22 := hF 0 _ _ rfl rfl; clear hF
    go_simp
    exact hK _ _ (Grow.refl _) rfl
  refine Plan.det 25 rfl (Grow.refl) ?_
  apply Exists.intro
  refine ⟨fun vs x hR hF K hK => ?_, ?_⟩
  · have f21 := hF 2 _ _ rfl rfl; have f23 := hF 0 _ _ rfl rfl; clear hF
    go_simp
    exact hK _ _ (Grow.refl _) rfl
  refine Plan.det 26 rfl (Grow.refl) ?_
  apply Exists.intro
  refine ⟨fun vs x hR hF K hK => ?_, ?_⟩
  · have f24 := hF 0 _ _ rfl rfl; have hc := HC.out x hR; clear hF
    go_simp
    exact hK _ _ (Grow.refl _) rfl
  refine Plan.det 27 rfl (Grow.refl) ?_
  apply Exists.intro
  refine ⟨fun vs x hR hF K hK => ?_, ?_⟩
  · have f24 := hF 1 _ _ rfl rfl; have f25 := hF 0 _ _ rfl rfl; clear hF
    go_simp
    refine (HGA.out x hR).mono ?_
    rintro e x1 ⟨rfl, hbe⟩
    exact ⟨_, rfl, hK _ _ hbe rfl⟩
  refine Plan.det 28 rfl (Grow.refl) ?_
  apply Exists.intro
  refine ⟨fun vs x hR hF K hK => ?_, ?_⟩
  · have f24 := hF 2 _ _ rfl rfl; have hc := HC.out x hR; clear hF
    go_simp
    exact hK _ _ (Grow.refl _) rfl
  refine Plan.det 29 rfl (Grow.refl) ?_
  apply Exists.intro
  refine ⟨fun vs x hR hF K hK => ?_, ?_⟩
  · have f24 := hF 3 _ _ rfl rfl; have f26 := hF 1 _ _ rfl rfl; have f27 := hF 0 _ _ rfl rfl; clear hF
    go_simp
    refine (HGB.out x hR).mono ?_
    rintro e x1 ⟨rfl, hbe⟩
    exact ⟨_, rfl, hK _ _ hbe rfl⟩
  refine Plan.det 30 rfl (Grow.refl) ?_
  apply Exists.intro
  refine ⟨fun vs x hR hF K hK => ?_, ?_⟩
  · have f24 := hF 4 _ _ rfl rfl; have f26 := hF 2 _ _ rfl rfl; have f28 := hF 0 _ _ rfl rfl; clear hF
    go_simp
    exact hK _ _ (Grow.refl _) rfl
  refine Plan.det 31 rfl (Grow.refl) ?_
  apply Exists.intro
  refine ⟨fun vs x hR hF K hK => ?_, ?_⟩
  · have f24 := hF 5 _ _ rfl rfl; have f29 := hF 0 _ _ rfl rfl; clear hF
    go_simp
    exact hK _ _ (Grow.refl _) rfl
  refine Plan.det 32 rfl (Grow.refl) ?_
  apply Exists.intro
  refine ⟨fun vs x hR hF K hK => ?_, ?_⟩
  · have f24 := hF 6 _ _ rfl rfl; have f30 := hF 0 _ _ rfl rfl; clear hF
    go_simp
    exact hK _ _ (Grow.refl _) rfl
  refine Plan.nil (fun vs x hR hF => ?_)
  have f0 := hF 31 _ _ rfl; have f1 := hF 30 _ _ rfl; have f2 := hF 29 _ _ rfl; have f3 := hF 28 _ _ rfl; have f4 := hF 27 _ _ rfl; have f5 := hF 26 _ _ rfl; have f6 := hF 25 _ _ rfl; have f7 := hF 24 _ _ rfl; have f8 := hF 23 _ _ rfl; have f9 := hF 22 _ _ rfl; have f10 := hF 21 _ _ rfl; have f11 := hF 20 _ _ rfl; have f12 := hF 19 _ _ rfl; have f13 := hF 18 _ _ rfl; have f14 := hF 17 _ _ rfl; have f15 := hF 16 _ _ rfl; have f16 := hF 15 _ _ rfl; have f17 := hF 14 _ _ rfl; have f18 := hF 13 _ _ rfl; have f19 := hF 12 _ _ rfl; have f20 := hF 11 _ _ rfl; have f21 := hF 10 _ _ rfl; have f22 := hF 9 _ _ rfl; have f23 := hF 8 _ _ rfl; have f24 := hF 7 _ _ rfl; have f25 := hF 6 _ _ rfl; have f26 := hF 5 _ _ rfl; have f27 := hF 4 _ _ rfl; have f28 := hF 3 _ _ rfl; have f29 := hF 2 _ _ rfl; have f30 := hF 1 _ _ rfl; have f31 := hF 0 _ _ rfl
  clear hF
  simp only [f0, f1, f2, f3, f4, f5, f6, f7, f8, f9, f10, f11, f12, f13, f14, f15, f16, f17, f18, f19, f20, f21, f22, f23, f24, f25, f26, f27, f28, f29, f30, f31]
  clear f0 f1 f2 f3 f4 f5 f6 f7 f8 f9 f10 f11 f12 f13 f14 f15 f16 f17 f18 f19 f20 f21 f22 f23 f24 f25 f26 f27 f28 f29 f30 f31
  simp only [List.drop_succ_cons, List.drop_zero]
  have HLX := hid (HL.out.later (grow_below hR))
  clear HC hR q0 q1 q2 HSA HSB HCA HCB HGA HGB
  simp only [show decide (12 < (s.size : Int)) = false by simp; omega]
  generalize x = w2 at HLX ⊢
  have q0 := HLX.out.1.1.c9
  have q1 := HLX.out.1.2.1.c9
  have q2 := HLX.out.1.2.2.three9
  obtain ⟨⟨l, x⟩, hr1⟩ : ∃ r, r = parsesR a s at_ lines := ⟨_, rfl⟩
  obtain ⟨⟨m, y⟩, hr2⟩ : ∃ r, r = parsesR b s at_ lines := ⟨_, rfl⟩
  obtain ⟨⟨al, z⟩, hr3⟩ : ∃ r, r = parsesR (bin 4 a b) s at_ lines := ⟨_, rfl⟩
  obtain ⟨⟨ct, v⟩, hr4⟩ : ∃ r, r = parsesR (bin 3 a b) s at_ lines := ⟨_, rfl⟩
  have hlaw := HLAW.out
  rw [← hr1, ← hr2, ← hr3, ← hr4] at hlaw
  have HLAW2 := hid hlaw
  have hle1 := parsesR_len (t := a) (s := s) (at_ := at_) (lines := lines)
  have hle2 := parsesR_len (t := b) (s := s) (at_ := at_) (lines := lines)
  have hle3 := parsesR_len (t := bin 4 a b) (s := s) (at_ := at_) (lines := lines)
  have hle4 := parsesR_len (t := bin 3 a b) (s := s) (at_ := at_) (lines := lines)
  rw [← hr1] at hle1
  rw [← hr2] at hle2
  rw [← hr3] at hle3
  rw [← hr4] at hle4
  have HLE := hid (⟨hle1, hle2, hle3, hle4⟩ : _ ∧ _ ∧ _ ∧ _)
  have HR3 := hid hr3
  have HR4 := hid hr4
  have hpp := PParses_any w2 a [.int .i64 pa.op, .int .u64 pa.set.a, .int .u64 pa.set.b, .int .u64 pa.set.c, .int .u64 pa.set.d, .int .i64 pa.lo, .int .i64 pa.hi, .int .i64 pa.gr, .slice aa ma ca] s at_ lines HLX.out.2.2.1.1 (by have := HZA.out; omega) (by omega) HLX.out.2.2.2
  rw [← hr1] at hpp
  have HPA := hid hpp
  have HPB := hid (fun (x : World) (hx : TwoAt w a b [.int .i64 pa.op, .int .u64 pa.set.a, .int .u64 pa.set.b, .int .u64 pa.set.c, .int .u64 pa.set.d, .int .i64 pa.lo, .int .i64 pa.hi, .int .i64 pa.gr, .slice aa ma ca] [.int .i64 pb.op, .int .u64 pb.set.a, .int .u64 pb.set.b, .int .u64 pb.set.c, .int .u64 pb.set.d, .int .i64 pb.lo, .int .i64 pb.hi, .int .i64 pb.gr, .slice ab mb cb] [.string s, .int .i64 at_, .bool lines] x) => PParses_any x b [.int .i64 pb.op, .int .u64 pb.set.a, .int .u64 pb.set.b, .int .u64 pb.set.c, .int .u64 pb.set.d, .int .i64 pb.lo, .int .i64 pb.hi, .int .i64 pb.gr, .slice ab mb cb] s at_ lines hx.2.2.1.2 (by have := HZB.out; omega) (by omega) hx.2.2.2)
  rw [← hr2] at HPB
  clear hlaw hle1 hle2 hle3 hle4 hr1 hr2 hr3 hr4 hpp HLAW
  go_wp2_with fail
  refine HPA.out.mono ?_
  rintro e w3 ⟨a3, c3, rfl, hb, hps⟩
  dsimp only at hps ⊢
  have HL3 := hid (⟨HLX.out.later hb, hps⟩ : _ ∧ _)
  clear hb hps q0 q1 q2 HPA HLX
  have q0 := HL3.out.1.1.1.c9
  have q1 := HL3.out.1.1.2.1.c9
  have q2 := HL3.out.1.1.2.2.three9
  go_wp2_with fail
  refine (HPB.out _ HL3.out.1).mono ?_
  rintro e w4 ⟨a4, c4, rfl, hb, hps⟩
  dsimp only at hps ⊢
  have HL4 := hid (⟨HL3.out.1.later hb, HL3.out.2.below hb, hps⟩ : TwoAt w a b [.int .i64 pa.op, .int .u64 pa.set.a, .int .u64 pa.set.b, .int .u64 pa.set.c, .int .u64 pa.set.d, .int .i64 pa.lo, .int .i64 pa.hi, .int .i64 pa.gr, .slice aa ma ca] [.int .i64 pb.op, .int .u64 pb.set.a, .int .u64 pb.set.b, .int .u64 pb.set.c, .int .u64 pb.set.d, .int .i64 pb.lo, .int .i64 pb.hi, .int .i64 pb.gr, .slice ab mb cb] [.string s, .int .i64 at_, .bool lines] w4 ∧ PsQ _ w4 (.slice a3 l.length c3) l ∧ PsQ _ w4 (.slice a4 m.length c4) m)
  clear hb hps q0 q1 q2 HPB HL3
  have HC := hid (fun (x : World) (hx : Grow w4.drew x) => (⟨(HL4.out.1.later (grow_below hx)).1.1.c9, (HL4.out.1.later (grow_below hx)).1.2.1.c9, (HL4.out.1.later (grow_below hx)).1.2.2.three9⟩ : _ ∧ _ ∧ _))
  go_wp2_with fail
  refine wp_region_two 10 16 rfl (Grow) (by kernel_rfl) (by kernel_rfl) (Grow.refl) (fun _ _ _ => Grow.trans) ?_
  simp only [fill, dstOf, Act.put, List.take_succ_cons, List.take_zero, List.getElem?_toArray, List.getElem?_cons_zero, List.getElem?_cons_succ, Option.bind_some, List.setIfInBounds_toArray, List.set_cons_zero, List.set_cons_succ]
  refine Plan.det 1 rfl (Grow.refl) ?_
  apply Exists.intro
  refine ⟨fun vs x hR hF K hK => ?_, ?_⟩
  · have hc := HC.out x hR; clear hF
    go_simp
    exact hK _ _ (Grow.refl _) rfl
  refine Plan.det 2 rfl (Grow.refl) ?_
  apply Exists.intro
  refine ⟨fun vs x hR hF K hK => ?_, ?_⟩
  · have hc := HC.out x hR; clear hF
    go_simp
    exact hK _ _ (Grow.refl _) rfl
  refine Plan.rel 3 rfl (Grow.refl) (fun v y => ∃ b' : Nat, v = .slice (some ⟨b', 0, none⟩) 2 2 ∧ Row y b' [.int .i64 pa.op, .int .u64 pa.set.a, .int .u64 pa.set.b, .int .u64 pa.set.c, .int .u64 pa.set.d, .int .i64 pa.lo, .int .i64 pa.hi, .int .i64 pa.gr, .slice aa ma ca, .int .i64 pb.op, .int .u64 pb.set.a, .int .u64 pb.set.b, .int .u64 pb.set.c, .int .u64 pb.set.d, .int .i64 pb.lo, .int .i64 pb.hi, .int .i64 pb.gr, .slice ab mb cb] 28) (fun v a b hR ⟨B, h1, h2⟩ => ⟨B, h1, h2.below hR h2.lt⟩) (fun vs x hR hF K hK => ?_) ?_
  · have f0 := hF 1 _ _ rfl rfl; have f1 := hF 0 _ _ rfl rfl
    go_simp
    exact hK _ _ (Grow.alloc _ _) ⟨_, rfl, Row.at _ _ _⟩
  refine Plan.rel 4 rfl (Grow.refl) (fun v y => ∃ b' : Nat, v = .agg #[.int .i64 4, .int .u64 0, .int .u64 0, .int .u64 0, .int .u64 0, .int .i64 0, .int .i64 0, .int .i64 0, .slice (some ⟨b', 0, none⟩) 2 2] ∧ Row y b' [.int .i64 pa.op, .int .u64 pa.set.a, .int .u64 pa.set.b, .int .u64 pa.set.c, .int .u64 pa.set.d, .int .i64 pa.lo, .int .i64 pa.hi, .int .i64 pa.gr, .slice aa ma ca, .int .i64 pb.op, .int .u64 pb.set.a, .int .u64 pb.set.b, .int .u64 pb.set.c, .int .u64 pb.set.d, .int .i64 pb.lo, .int .i64 pb.hi, .int .i64 pb.gr, .slice ab mb cb] 28) (fun v a b hR ⟨B, h1, h2⟩ => ⟨B, h1, h2.below hR h2.lt⟩) (fun vs x hR hF K hK => ?_) ?_
  · have f2 := hF 0 _ _ rfl rfl
    obtain ⟨b', e2, hr⟩ := f2
    go_simp
    refine (Node_any x 4 _ _ _).mono ?_
    rintro e x1 ⟨rfl, hbe⟩
    exact ⟨_, rfl, hK _ _ hbe ⟨b', rfl, hr.below hbe hr.lt⟩⟩
  refine Plan.det 5 rfl (Grow.refl) ?_
  apply Exists.intro
  refine ⟨fun vs x hR hF K hK => ?_, ?_⟩
  · clear hF
    go_simp
    exact hK _ _ (Grow.refl _) rfl
  refine Plan.det 6 rfl (Grow.refl) ?_
  apply Exists.intro
  refine ⟨fun vs x hR hF K hK => ?_, ?_⟩
  · have f4 := hF 0 _ _ rfl rfl; have hc := HC.out x hR; clear hF
    go_simp
    exact hK _ _ (Grow.refl _) rfl
  refine Plan.det 7 rfl (Grow.refl) ?_
  apply Exists.intro
  refine ⟨fun vs x hR hF K hK => ?_, ?_⟩
  · clear hF
    go_simp
    exact hK _ _ (Grow.refl _) rfl
  refine Plan.det 8 rfl (Grow.refl) ?_
  apply Exists.intro
  refine ⟨fun vs x hR hF K hK => ?_, ?_⟩
  · have f6 := hF 0 _ _ rfl rfl; have hc := HC.out x hR; clear hF
    go_simp
    exact hK _ _ (Grow.refl _) rfl
  refine Plan.det 9 rfl (Grow.refl) ?_
  apply Exists.intro
  refine ⟨fun vs x hR hF K hK => ?_, ?_⟩
  · clear hF
    go_simp
    exact hK _ _ (Grow.refl _) rfl
  refine Plan.det 10 rfl (Grow.refl) ?_
  apply Exists.intro
  refine ⟨fun vs x hR hF K hK => ?_, ?_⟩
  · have f8 := hF 0 _ _ rfl rfl; have hc := HC.out x hR; clear hF
    go_simp
    exact hK _ _ (Grow.refl _) rfl
  refine PlanEnd (by simp) (fun vs x hR hF => ?_)
  have f0 := hF 9 _ _ rfl; have f1 := hF 8 _ _ rfl; have f2 := hF 7 _ _ rfl; have f3 := hF 6 _ _ rfl; have f4 := hF 5 _ _ rfl; have f5 := hF 4 _ _ rfl; have f6 := hF 3 _ _ rfl; have f7 := hF 2 _ _ rfl; have f8 := hF 1 _ _ rfl; have f9 := hF 0 _ _ rfl
  clear hF
  simp only [f0, f1, f4, f5, f6, f7, f8, f9]
  clear f0 f1 f4 f5 f6 f7 f8 f9
  intro oo hoo KQ hK
  obtain rfl := Option.some.inj hoo
  clear hoo
  obtain ⟨bn, e3, hrn⟩ := f3
  have HLY := hid (HL4.out.1.later (grow_below hR))
  have HNI := hid (bin_in 4 (by unfold I64; omega) hrn HLY.out.2.2.1.1 HLY.out.2.2.1.2)
  have HPY := hid (⟨HL4.out.2.1.below (grow_below hR), HL4.out.2.2.below (grow_below hR)⟩ : PsQ _ x _ _ ∧ PsQ _ x _ _)
  have hpp := PParses_any x (bin 4 a b) _ s at_ lines HNI.out (by have := bin_size 4 a b; have := HZA.out; have := HZB.out; omega) (by omega) HLY.out.2.2.2
  rw [← HR3.out] at hpp
  have HPP := hid hpp
  clear hpp hrn hR f2
  go_simp
  refine HPP.out.mono ?_
  rintro e w5 ⟨a5, c5, rfl, hb, hps⟩
  dsimp only at hps ⊢
  have HL5 := hid (⟨HLY.out.later hb, HPY.out.1.below hb, HPY.out.2.below hb, hps⟩ : TwoAt w a b [.int .i64 pa.op, .int .u64 pa.set.a, .int .u64 pa.set.b, .int .u64 pa.set.c, .int .u64 pa.set.d, .int .i64 pa.lo, .int .i64 pa.hi, .int .i64 pa.gr, .slice aa ma ca] [.int .i64 pb.op, .int .u64 pb.set.a, .int .u64 pb.set.b, .int .u64 pb.set.c, .int .u64 pb.set.d, .int .i64 pb.lo, .int .i64 pb.hi, .int .i64 pb.gr, .slice ab mb cb] [.string s, .int .i64 at_, .bool lines] w5 ∧ PsQ _ w5 (.slice a3 l.length c3) l ∧ PsQ _ w5 (.slice a4 m.length c4) m ∧ PsQ _ w5 (.slice a5 al.length c5) al)
  refine ⟨_, rfl, hK _ _ ?_⟩
  clear hK hb hps
  unfold AfterC
  simp only [fill, dstOf, Act.put, List.getElem?_toArray, List.getElem?_cons_zero, List.getElem?_cons_succ, Option.bind_some, List.setIfInBounds_toArray, List.set_cons_zero, List.set_cons_succ, List.drop_succ_cons, List.drop_zero]
  refine Plan.det 12 rfl (fun _ => rfl) ?_
  apply Exists.intro
  refine ⟨fun vs x hR hF K hK => ?_, ?_⟩
  · have f10 := hF 0 _ _ rfl rfl; clear hF
    go_simp
    exact hK _ _ rfl rfl
  refine Plan.det 13 rfl (fun _ => rfl) ?_
  apply Exists.intro
  refine ⟨fun vs x hR hF K hK => ?_, ?_⟩
  · have f11 := hF 0 _ _ rfl rfl; clear hF
    go_simp
    exact hK _ _ rfl rfl
  refine Plan.det 14 rfl (fun _ => rfl) ?_
  apply Exists.intro
  refine ⟨fun vs x hR hF K hK => ?_, ?_⟩
  · have f11 := hF 1 _ _ rfl rfl; clear hF
    go_simp
    exact hK _ _ rfl rfl
  refine Plan.det 15 rfl (fun _ => rfl) ?_
  apply Exists.intro
  refine ⟨fun vs x hR hF K hK => ?_, ?_⟩
  · have f10 := hF 3 _ _ rfl rfl; have f11 := hF 2 _ _ rfl rfl; have f12 := hF 1 _ _ rfl rfl; clear hF
    go_simp
    exact hK _ _ rfl rfl
  refine Plan.det 16 rfl (fun _ => rfl) ?_
  apply Exists.intro
  refine ⟨fun vs x hR hF K hK => ?_, ?_⟩
  · have f10 := hF 4 _ _ rfl rfl; have f11 := hF 3 _ _ rfl rfl; have f12 := hF 2 _ _ rfl rfl; have f13 := hF 1 _ _ rfl rfl; have f14 := hF 0 _ _ rfl rfl; clear hF
    go_simp
    exact hK _ _ rfl rfl
  refine Plan.nil (fun vs x hR2 hF => ?_)
  have f10 := hF 5 _ _ rfl; have f11 := hF 4 _ _ rfl; have f12 := hF 3 _ _ rfl; have f13 := hF 2 _ _ rfl; have f14 := hF 1 _ _ rfl; have f15 := hF 0 _ _ rfl
  clear hF
  simp only [f10, f11, f12, f13, f14, f15]
  clear f10 f11 f12 f13 f14 f15
  subst hR2
  simp only [List.drop_succ_cons, List.drop_nil]
  clear HC
  have HC := hid (fun (x : World) (hx : Grow w5.drew x) => (⟨(HL5.out.1.later (grow_below hx)).1.1.c9, (HL5.out.1.later (grow_below hx)).1.2.1.c9, (HL5.out.1.later (grow_below hx)).1.2.2.three9⟩ : _ ∧ _ ∧ _))
  go_wp2_with fail
  refine wp_region_two 10 16 rfl (Grow) (by kernel_rfl) (by kernel_rfl) (Grow.refl) (fun _ _ _ => Grow.trans) ?_
  simp only [fill, dstOf, Act.put, List.take_succ_cons, List.take_zero, List.getElem?_toArray, List.getElem?_cons_zero, List.getElem?_cons_succ, Option.bind_some, List.setIfInBounds_toArray, List.set_cons_zero, List.set_cons_succ]
  refine Plan.det 1 rfl (Grow.refl) ?_
  apply Exists.intro
  refine ⟨fun vs x hR hF K hK => ?_, ?_⟩
  · have hc := HC.out x hR; clear hF
    go_simp
    exact hK _ _ (Grow.refl _) rfl
  refine Plan.det 2 rfl (Grow.refl) ?_
  apply Exists.intro
  refine ⟨fun vs x hR hF K hK => ?_, ?_⟩
  · have hc := HC.out x hR; clear hF
    go_simp
    exact hK _ _ (Grow.refl _) rfl
  refine Plan.rel 3 rfl (Grow.refl) (fun v y => ∃ b' : Nat, v = .slice (some ⟨b', 0, none⟩) 2 2 ∧ Row y b' [.int .i64 pa.op, .int .u64 pa.set.a, .int .u64 pa.set.b, .int .u64 pa.set.c, .int .u64 pa.set.d, .int .i64 pa.lo, .int .i64 pa.hi, .int .i64 pa.gr, .slice aa ma ca, .int .i64 pb.op, .int .u64 pb.set.a, .int .u64 pb.set.b, .int .u64 pb.set.c, .int .u64 pb.set.d, .int .i64 pb.lo, .int .i64 pb.hi, .int .i64 pb.gr, .slice ab mb cb] 28) (fun v a b hR ⟨B, h1, h2⟩ => ⟨B, h1, h2.below hR h2.lt⟩) (fun vs x hR hF K hK => ?_) ?_
  · have f0 := hF 1 _ _ rfl rfl; have f1 := hF 0 _ _ rfl rfl
    go_simp
    exact hK _ _ (Grow.alloc _ _) ⟨_, rfl, Row.at _ _ _⟩
  refine Plan.rel 4 rfl (Grow.refl) (fun v y => ∃ b' : Nat, v = .agg #[.int .i64 3, .int .u64 0, .int .u64 0, .int .u64 0, .int .u64 0, .int .i64 0, .int .i64 0, .int .i64 0, .slice (some ⟨b', 0, none⟩) 2 2] ∧ Row y b' [.int .i64 pa.op, .int .u64 pa.set.a, .int .u64 pa.set.b, .int .u64 pa.set.c, .int .u64 pa.set.d, .int .i64 pa.lo, .int .i64 pa.hi, .int .i64 pa.gr, .slice aa ma ca, .int .i64 pb.op, .int .u64 pb.set.a, .int .u64 pb.set.b, .int .u64 pb.set.c, .int .u64 pb.set.d, .int .i64 pb.lo, .int .i64 pb.hi, .int .i64 pb.gr, .slice ab mb cb] 28) (fun v a b hR ⟨B, h1, h2⟩ => ⟨B, h1, h2.below hR h2.lt⟩) (fun vs x hR hF K hK => ?_) ?_
  · have f2 := hF 0 _ _ rfl rfl
    obtain ⟨b', e2, hr⟩ := f2
    go_simp
    refine (Node_any x 3 _ _ _).mono ?_
    rintro e x1 ⟨rfl, hbe⟩
    exact ⟨_, rfl, hK _ _ hbe ⟨b', rfl, hr.below hbe hr.lt⟩⟩
  refine Plan.det 5 rfl (Grow.refl) ?_
  apply Exists.intro
  refine ⟨fun vs x hR hF K hK => ?_, ?_⟩
  · clear hF
    go_simp
    exact hK _ _ (Grow.refl _) rfl
  refine Plan.det 6 rfl (Grow.refl) ?_
  apply Exists.intro
  refine ⟨fun vs x hR hF K hK => ?_, ?_⟩
  · have f4 := hF 0 _ _ rfl rfl; have hc := HC.out x hR; clear hF
    go_simp
    exact hK _ _ (Grow.refl _) rfl
  refine Plan.det 7 rfl (Grow.refl) ?_
  apply Exists.intro
  refine ⟨fun vs x hR hF K hK => ?_, ?_⟩
  · clear hF
    go_simp
    exact hK _ _ (Grow.refl _) rfl
  refine Plan.det 8 rfl (Grow.refl) ?_
  apply Exists.intro
  refine ⟨fun vs x hR hF K hK => ?_, ?_⟩
  · have f6 := hF 0 _ _ rfl rfl; have hc := HC.out x hR; clear hF
    go_simp
    exact hK _ _ (Grow.refl _) rfl
  refine Plan.det 9 rfl (Grow.refl) ?_
  apply Exists.intro
  refine ⟨fun vs x hR hF K hK => ?_, ?_⟩
  · clear hF
    go_simp
    exact hK _ _ (Grow.refl _) rfl
  refine Plan.det 10 rfl (Grow.refl) ?_
  apply Exists.intro
  refine ⟨fun vs x hR hF K hK => ?_, ?_⟩
  · have f8 := hF 0 _ _ rfl rfl; have hc := HC.out x hR; clear hF
    go_simp
    exact hK _ _ (Grow.refl _) rfl
  refine PlanEnd (by simp) (fun vs x hR hF => ?_)
  have f0 := hF 9 _ _ rfl; have f1 := hF 8 _ _ rfl; have f2 := hF 7 _ _ rfl; have f3 := hF 6 _ _ rfl; have f4 := hF 5 _ _ rfl; have f5 := hF 4 _ _ rfl; have f6 := hF 3 _ _ rfl; have f7 := hF 2 _ _ rfl; have f8 := hF 1 _ _ rfl; have f9 := hF 0 _ _ rfl
  clear hF
  simp only [f0, f1, f4, f5, f6, f7, f8, f9]
  clear f0 f1 f4 f5 f6 f7 f8 f9
  intro oo hoo KQ hK
  obtain rfl := Option.some.inj hoo
  clear hoo
  obtain ⟨bn, e3, hrn⟩ := f3
  have HLY := hid (HL5.out.1.later (grow_below hR))
  have HNI := hid (bin_in 3 (by unfold I64; omega) hrn HLY.out.2.2.1.1 HLY.out.2.2.1.2)
  have HPY := hid (⟨HL5.out.2.1.below (grow_below hR), HL5.out.2.2.1.below (grow_below hR), HL5.out.2.2.2.below (grow_below hR)⟩ : PsQ _ x _ _ ∧ PsQ _ x _ _ ∧ PsQ _ x _ _)
  have hpp := PParses_any x (bin 3 a b) _ s at_ lines HNI.out (by have := bin_size 3 a b; have := HZA.out; have := HZB.out; omega) (by omega) HLY.out.2.2.2
  rw [← HR4.out] at hpp
  have HPP := hid hpp
  clear hpp hrn hR f2
  go_simp
  refine HPP.out.mono ?_
  rintro e w6 ⟨a6, c6, rfl, hb, hps⟩
  dsimp only at hps ⊢
  have HL6 : Hid (FourAt w a b [.int .i64 pa.op, .int .u64 pa.set.a, .int .u64 pa.set.b, .int .u64 pa.set.c, .int .u64 pa.set.d, .int .i64 pa.lo, .int .i64 pa.hi, .int .i64 pa.gr, .slice aa ma ca] [.int .i64 pb.op, .int .u64 pb.set.a, .int .u64 pb.set.b, .int .u64 pb.set.c, .int .u64 pb.set.d, .int .i64 pb.lo, .int .i64 pb.hi, .int .i64 pb.gr, .slice ab mb cb] [.string s, .int .i64 at_, .bool lines] (.slice a3 l.length c3) (.slice a4 m.length c4) (.slice a5 al.length c5) (.slice a6 ct.length c6) l m al ct w6) := ⟨HLY.out.later hb, (HPY.out.1.below hb).mono (fun _ _ _ => trivial), (HPY.out.2.1.below hb).mono (fun _ _ _ => trivial), (HPY.out.2.2.below hb).mono (fun _ _ _ => trivial), hps.mono (fun _ _ _ => trivial)⟩
  refine ⟨_, rfl, hK _ _ ?_⟩
  clear hK hb hps
  unfold AfterC
  simp only [fill, dstOf, Act.put, List.getElem?_toArray, List.getElem?_cons_zero, List.getElem?_cons_succ, Option.bind_some, List.setIfInBounds_toArray, List.set_cons_zero, List.set_cons_succ, List.drop_succ_cons, List.drop_zero]
  refine Plan.det 12 rfl (fun _ => rfl) ?_
  apply Exists.intro
  refine ⟨fun vs x hR hF K hK => ?_, ?_⟩
  · have f10 := hF 0 _ _ rfl rfl; clear hF
    go_simp
    exact hK _ _ rfl rfl
  refine Plan.det 13 rfl (fun _ => rfl) ?_
  apply Exists.intro
  refine ⟨fun vs x hR hF K hK => ?_, ?_⟩
  · have f11 := hF 0 _ _ rfl rfl; clear hF
    go_simp
    exact hK _ _ rfl rfl
  refine Plan.det 14 rfl (fun _ => rfl) ?_
  apply Exists.intro
  refine ⟨fun vs x hR hF K hK => ?_, ?_⟩
  · have f11 := hF 1 _ _ rfl rfl; clear hF
    go_simp
    exact hK _ _ rfl rfl
  refine Plan.det 15 rfl (fun _ => rfl) ?_
  apply Exists.intro
  refine ⟨fun vs x hR hF K hK => ?_, ?_⟩
  · have f10 := hF 3 _ _ rfl rfl; have f11 := hF 2 _ _ rfl rfl; have f12 := hF 1 _ _ rfl rfl; clear hF
    go_simp
    exact hK _ _ rfl rfl
  refine Plan.det 16 rfl (fun _ => rfl) ?_
  apply Exists.intro
  refine ⟨fun vs x hR hF K hK => ?_, ?_⟩
  · have f10 := hF 4 _ _ rfl rfl; have f11 := hF 3 _ _ rfl rfl; have f12 := hF 2 _ _ rfl rfl; have f13 := hF 1 _ _ rfl rfl; have f14 := hF 0 _ _ rfl rfl; clear hF
    go_simp
    exact hK _ _ rfl rfl
  refine Plan.nil (fun vs x hR2 hF => ?_)
  have f10 := hF 5 _ _ rfl; have f11 := hF 4 _ _ rfl; have f12 := hF 3 _ _ rfl; have f13 := hF 2 _ _ rfl; have f14 := hF 1 _ _ rfl; have f15 := hF 0 _ _ rfl
  clear hF
  simp only [f10, f11, f12, f13, f14, f15]
  clear f10 f11 f12 f13 f14 f15
  subst hR2
  simp only [List.drop_succ_cons, List.drop_nil]
  clear HC
  rcases HLAW2.out with ⟨⟨h1, h2⟩, h3, h4⟩ | ⟨⟨h1, h2⟩, ⟨h3, h4⟩, hALT, hNX, hCAT⟩
  · injection h1 with e1 e2
    injection h2 with e3 e4
    injection h3 with e5 e6
    injection h4 with e7 e8
    subst e1; subst e2; subst e3; subst e4; subst e5; subst e6; subst e7; subst e8
    clear HLAW2
    go_wp2_with fail
    refine (HAW.out _ HL6.out.1).mono ?_
    rintro e w99 ⟨rfl, hb⟩
    have HB := hid hb
    clear hb
    go_wp2_with fail
    all_goals (try go_ret)
    all_goals exact ⟨rfl, HB.out⟩
  subst h1; subst h2; subst h3; subst h4
  have HALT : Hid (∀ j, j ∈ al.map Prod.fst ↔ j ∈ l.map Prod.fst ∨ j ∈ m.map Prod.fst) := hALT
  have HNX := hid hNX
  have HCAT : Hid (∀ j, j ∈ ct.map Prod.fst ↔ ∃ q, q ∈ l ∧ j ∈ endsR (parsesR b s q.1 lines)) := hCAT
  clear hALT hNX hCAT HLAW2
  have HE1 := hid (ends9_any w6 _ _ l HL6.out.2.1 (by have := HLE.out.1; omega))
  go_wp2_with fail
  refine HE1.out.mono ?_
  rintro e w7 ⟨ae1, ce1, rfl, hb, hi⟩
  have HL7 := hid (HL6.out.later hb)
  have HI1 := hid hi
  clear hb hi HE1
  have HE2 := hid (ends9_any w7 _ _ al HL7.out.2.2.2.1 (by have := HLE.out.2.2.1; omega))
  go_wp2_with fail
  refine HE2.out.mono ?_
  rintro e w8 ⟨ae2, ce2, rfl, hb, hi⟩
  have HL8 := hid (HL7.out.later hb)
  have hw := within9_any w8 _ _ _ _ (HI1.out.below hb) hi (by rw [List.length_map]; have := HLE.out.1; omega) (by rw [List.length_map]; have := HLE.out.2.2.1; omega)
  rw [decide_eq_true (show ∀ x, x ∈ l.map Prod.fst → x ∈ al.map Prod.fst from fun x hx => (HALT.out x).2 (.inl hx))] at hw
  have HW := hid hw
  clear hb hi hw HE2
  go_wp2_with fail
  refine HW.out.mono ?_
  rintro e w9 ⟨rfl, hb⟩
  have HL9 := hid (HL8.out.later hb)
  clear hb HW HI1
  have HE3 := hid (ends9_any w9 _ _ m HL9.out.2.2.1 (by have := HLE.out.2.1; omega))
  go_wp2_with fail
  refine HE3.out.mono ?_
  rintro e w10 ⟨ae3, ce3, rfl, hb, hi⟩
  have HL10 := hid (HL9.out.later hb)
  have HI1 := hid hi
  clear hb hi HE3
  have HE4 := hid (ends9_any w10 _ _ al HL10.out.2.2.2.1 (by have := HLE.out.2.2.1; omega))
  go_wp2_with fail
  refine HE4.out.mono ?_
  rintro e w11 ⟨ae4, ce4, rfl, hb, hi⟩
  have HL11 := hid (HL10.out.later hb)
  have hw := within9_any w11 _ _ _ _ (HI1.out.below hb) hi (by rw [List.length_map]; have := HLE.out.2.1; omega) (by rw [List.length_map]; have := HLE.out.2.2.1; omega)
  rw [decide_eq_true (show ∀ x, x ∈ m.map Prod.fst → x ∈ al.map Prod.fst from fun x hx => (HALT.out x).2 (.inr hx))] at hw
  have HW := hid hw
  clear hb hi hw HE4
  go_wp2_with fail
  refine HW.out.mono ?_
  rintro e w12 ⟨rfl, hb⟩
  have HL12 := hid (HL11.out.later hb)
  clear hb HW HI1 HL6 HL7 HL8 HL9 HL10 HL11 HL5 HL4
  have hal4 : al.length ≤ 4096 := HLE.out.2.2.1
  have hl4 : l.length ≤ 4096 := HLE.out.1
  go_wp2_with fail
  go_loopw [15] (fun v wr => ∃ i : Nat, i ≤ al.length ∧ v = .int .i64 i ∧ Hid (Below w12.heap.size w12 wr)) (fun v _ => al.length - (intOf v).toNat)
  case atStart => exact ⟨0, Nat.zero_le _, rfl, Below.refl _ _⟩
  case round =>
    obtain ⟨i, hi, rfl, HB⟩ := hrel
    have HL13 := hid (HL12.out.later HB.out)
    by_cases hlt : i < al.length
    · have hltI : (i : Int) < (al.length : Int) := by omega
      obtain ⟨bb, cc, u1, u2, sa, sc, hq, ev, hb, -, -, p0, -, -⟩ := HL13.out.2.2.2.1.get hlt
      injection ev with e1 e2 e3
      subst e1; subst e3
      have hmem : u1 ∈ al.map Prod.fst := List.mem_map.2 ⟨(u1, u2), List.mem_of_getElem? hq, rfl⟩
      have hor := (HALT.out u1).1 hmem
      have HC0 := hid (⟨p0, hb⟩ : _ ∧ _)
      have HC := hid (fun (y : World) (hy : Grow wr.drew y) => ((grow_below hy).cell (p := ⟨bb, i * 2, none⟩) HC0.out.2).trans HC0.out.1)
      have HE1 := hid (fun (y : World) (hy : Grow wr.drew y) => ends9_any y _ _ l (HL13.out.later (grow_below hy)).2.1 (by omega))
      have HE2 := hid (fun (y : World) (hy : Grow wr.drew y) => ends9_any y _ _ m (HL13.out.later (grow_below hy)).2.2.1 (by have := HLE.out.2.1; omega))
      have HLM := hid (HLE.out.2.1)
      clear e2 hq hb hmem
      by_cases hin : u1 ∈ l.map Prod.fst
      · have HD1 : Hid (decide (u1 ∈ l.map Prod.fst) = true) := decide_eq_true hin
        clear hin hor
        go_wp2_with fail
        refine wp_region_inv 20 (Grow) (by kernel_rfl) (by kernel_rfl) (Grow.refl) (fun _ _ _ => Grow.trans) ?_
        simp only [fill, dstOf, Act.put, List.take_succ_cons, List.take_zero, List.getElem?_toArray, List.getElem?_cons_zero, List.getElem?_cons_succ, Option.bind_some, List.setIfInBounds_toArray, List.set_cons_zero, List.set_cons_succ]
        refine Plan.det 1 rfl (Grow.refl) ?_
        apply Exists.intro
        refine ⟨fun vs x hR hF K hK => ?_, ?_⟩
        · clear hF
          go_simp
          exact hK _ _ (Grow.refl _) rfl
        refine Plan.rel 2 rfl (Grow.refl) (fun v y => ∃ (a' : Option Addr) (c' : Nat), v = .slice a' l.length c' ∧ IntQ y (.slice a' l.length c') (l.map Prod.fst)) (fun v a b hR ⟨a', c', h1, h2⟩ => ⟨a', c', h1, h2.below hR⟩) (fun vs x hR hF K hK => ?_) ?_
        · have f0 := hF 0 _ _ rfl rfl
          go_simp
          refine (HE1.out x hR).mono ?_
          rintro e x1 ⟨a', c', rfl, hbe, hi⟩
          exact ⟨_, rfl, hK _ _ hbe ⟨a', c', rfl, hi⟩⟩
        refine Plan.det 3 rfl (Grow.refl) ?_
        apply Exists.intro
        refine ⟨fun vs x hR hF K hK => ?_, ?_⟩
        · clear hF
          go_simp
          exact hK _ _ (Grow.refl _) rfl
        refine Plan.det 4 rfl (Grow.refl) ?_
        apply Exists.intro
        refine ⟨fun vs x hR hF K hK => ?_, ?_⟩
        · clear hF
          go_simp
          exact hK _ _ (Grow.refl _) rfl
        refine Plan.det 5 rfl (Grow.refl) ?_
        apply Exists.intro
        refine ⟨fun vs x hR hF K hK => ?_, ?_⟩
        · have f2 := hF 1 _ _ rfl rfl; have f3 := hF 0 _ _ rfl rfl; clear hF
          go_simp
          exact hK _ _ (Grow.refl _) rfl
        refine Plan.det 6 rfl (Grow.refl) ?_
        apply Exists.intro
        refine ⟨fun vs x hR hF K hK => ?_, ?_⟩
        · have f4 := hF 0 _ _ rfl rfl; clear hF
          go_simp
          exact hK _ _ (Grow.refl _) rfl
        refine Plan.det 7 rfl (Grow.refl) ?_
        apply Exists.intro
        refine ⟨fun vs x hR hF K hK => ?_, ?_⟩
        · have f5 := hF 0 _ _ rfl rfl; have hc := HC.out x hR; clear hF
          go_simp
          exact hK _ _ (Grow.refl _) rfl
        refine Plan.det 8 rfl (Grow.refl) ?_
        apply Exists.intro
        refine ⟨fun vs x hR hF K hK => ?_, ?_⟩
        · have f1 := hF 5 _ _ rfl rfl; have f6 := hF 0 _ _ rfl rfl; clear hF
          obtain ⟨a', c', e1, hi⟩ := f1
          have hh := has9_any x _ _ u1 hi (by rw [List.length_map]; omega)
          rw [HD1.out] at hh
          go_simp
          refine hh.mono ?_
          rintro e x1 ⟨rfl, hbe⟩
          exact ⟨_, rfl, hK _ _ hbe rfl⟩
        refine Plan.det 9 rfl (Grow.refl) ?_
        apply Exists.intro
        refine ⟨fun vs x hR hF K hK => ?_, ?_⟩
        · have f7 := hF 0 _ _ rfl rfl; clear hF
          go_simp
          exact hK _ _ (Grow.refl _) rfl
        refine Plan.det 10 rfl (Grow.refl) ?_
        apply Exists.intro
        refine ⟨fun vs x hR hF K hK => ?_, ?_⟩
        · have f7 := hF 1 _ _ rfl rfl; have f8 := hF 0 _ _ rfl rfl; clear hF
          go_simp
          exact hK _ _ (Grow.refl _) rfl
        refine Plan.det 11 rfl (Grow.refl) ?_
        apply Exists.intro
        refine ⟨fun vs x hR hF K hK => ?_, ?_⟩
        · have f9 := hF 0 _ _ rfl rfl; clear hF
          go_simp
          exact hK _ _ (Grow.refl _) rfl
        refine Plan.det 12 rfl (Grow.refl) ?_
        apply Exists.intro
        refine ⟨fun vs x hR hF K hK => ?_, ?_⟩
        · have f9 := hF 1 _ _ rfl rfl; have f10 := hF 0 _ _ rfl rfl; clear hF
          go_simp
          exact hK _ _ (Grow.refl _) rfl
        refine Plan.det 13 rfl (Grow.refl) ?_
        apply Exists.intro
        refine ⟨fun vs x hR hF K hK => ?_, ?_⟩
        · have f9 := hF 2 _ _ rfl rfl; clear hF
          go_simp
          exact hK _ _ (Grow.refl _) rfl
        refine Plan.det 14 rfl (Grow.refl) ?_
        apply Exists.intro
        refine ⟨fun vs x hR hF K hK => ?_, ?_⟩
        · have f9 := hF 3 _ _ rfl rfl; clear hF
          go_simp
          exact hK _ _ (Grow.refl _) rfl
        refine Plan.det 15 rfl (Grow.refl) ?_
        apply Exists.intro
        refine ⟨fun vs x hR hF K hK => ?_, ?_⟩
        · have f9 := hF 4 _ _ rfl rfl; have f12 := hF 1 _ _ rfl rfl; have f13 := hF 0 _ _ rfl rfl; clear hF
          go_simp
          exact hK _ _ (Grow.refl _) rfl
        refine Plan.det 16 rfl (Grow.refl) ?_
        apply Exists.intro
        refine ⟨fun vs x hR hF K hK => ?_, ?_⟩
        · have f9 := hF 5 _ _ rfl rfl; have f14 := hF 0 _ _ rfl rfl; clear hF
          go_simp
          exact hK _ _ (Grow.refl _) rfl
        refine Plan.det 17 rfl (Grow.refl) ?_
        apply Exists.intro
        refine ⟨fun vs x hR hF K hK => ?_, ?_⟩
        · have f9 := hF 6 _ _ rfl rfl; have f15 := hF 0 _ _ rfl rfl; have hc := HC.out x hR; clear hF
          go_simp
          exact hK _ _ (Grow.refl _) rfl
        refine Plan.det 18 rfl (Grow.refl) ?_
        apply Exists.intro
        refine ⟨fun vs x hR hF K hK => ?_, ?_⟩
        · have f9 := hF 7 _ _ rfl rfl; have f11 := hF 5 _ _ rfl rfl; have f16 := hF 0 _ _ rfl rfl; clear hF
          go_simp
          exact hK _ _ (Grow.refl _) rfl
        refine Plan.det 19 rfl (Grow.refl) ?_
        apply Exists.intro
        refine ⟨fun vs x hR hF K hK => ?_, ?_⟩
        · have f9 := hF 8 _ _ rfl rfl; have f17 := hF 0 _ _ rfl rfl; clear hF
          go_simp
          exact hK _ _ (Grow.refl _) rfl
        refine Plan.det 20 rfl (Grow.refl) ?_
        apply Exists.intro
        refine ⟨fun vs x hR hF K hK => ?_, ?_⟩
        · have f9 := hF 9 _ _ rfl rfl; have f18 := hF 0 _ _ rfl rfl; clear hF
          go_simp
          exact hK _ _ (Grow.refl _) rfl
        refine Plan.nil (fun vs x hR hF => ?_)
        have f0 := hF 19 _ _ rfl; have f1 := hF 18 _ _ rfl; have f2 := hF 17 _ _ rfl; have f3 := hF 16 _ _ rfl; have f4 := hF 15 _ _ rfl; have f5 := hF 14 _ _ rfl; have f6 := hF 13 _ _ rfl; have f7 := hF 12 _ _ rfl; have f8 := hF 11 _ _ rfl; have f9 := hF 10 _ _ rfl; have f10 := hF 9 _ _ rfl; have f11 := hF 8 _ _ rfl; have f12 := hF 7 _ _ rfl; have f13 := hF 6 _ _ rfl; have f14 := hF 5 _ _ rfl; have f15 := hF 4 _ _ rfl; have f16 := hF 3 _ _ rfl; have f17 := hF 2 _ _ rfl; have f18 := hF 1 _ _ rfl; have f19 := hF 0 _ _ rfl
        clear hF
        simp only [f0, f2, f3, f4, f5, f6, f7, f8, f9, f10, f11, f12, f13, f14, f15, f16, f17, f18, f19]
        clear f0 f2 f3 f4 f5 f6 f7 f8 f9 f10 f11 f12 f13 f14 f15 f16 f17 f18 f19
        simp only [List.drop_succ_cons, List.drop_zero]
        have HBZ := hid (HB.out.trans ((grow_below hR).mono HB.out.size))
        clear HC HE1 HE2 hR
        go_wp2_with fail
        refine ⟨⟨i + 1, by omega, by go_num, HBZ.out⟩, ?_⟩
        simp [intOf]
        omega
      · have HD1 : Hid (decide (u1 ∈ l.map Prod.fst) = false) := decide_eq_false hin
        have HD2 : Hid (decide (u1 ∈ m.map Prod.fst) = true) := decide_eq_true (hor.resolve_left hin)
        clear hin hor
        go_wp2_with fail
        refine wp_region_inv 20 (Grow) (by kernel_rfl) (by kernel_rfl) (Grow.refl) (fun _ _ _ => Grow.trans) ?_
        simp only [fill, dstOf, Act.put, List.take_succ_cons, List.take_zero, List.getElem?_toArray, List.getElem?_cons_zero, List.getElem?_cons_succ, Option.bind_some, List.setIfInBounds_toArray, List.set_cons_zero, List.set_cons_succ]
        refine Plan.det 1 rfl (Grow.refl) ?_
        apply Exists.intro
        refine ⟨fun vs x hR hF K hK => ?_, ?_⟩
        · clear hF
          go_simp
          exact hK _ _ (Grow.refl _) rfl
        refine Plan.rel 2 rfl (Grow.refl) (fun v y => ∃ (a' : Option Addr) (c' : Nat), v = .slice a' l.length c' ∧ IntQ y (.slice a' l.length c') (l.map Prod.fst)) (fun v a b hR ⟨a', c', h1, h2⟩ => ⟨a', c', h1, h2.below hR⟩) (fun vs x hR hF K hK => ?_) ?_
        · have f0 := hF 0 _ _ rfl rfl
          go_simp
          refine (HE1.out x hR).mono ?_
          rintro e x1 ⟨a', c', rfl, hbe, hi⟩
          exact ⟨_, rfl, hK _ _ hbe ⟨a', c', rfl, hi⟩⟩
        refine Plan.det 3 rfl (Grow.refl) ?_
        apply Exists.intro
        refine ⟨fun vs x hR hF K hK => ?_, ?_⟩
        · clear hF
          go_simp
          exact hK _ _ (Grow.refl _) rfl
        refine Plan.det 4 rfl (Grow.refl) ?_
        apply Exists.intro
        refine ⟨fun vs x hR hF K hK => ?_, ?_⟩
        · clear hF
          go_simp
          exact hK _ _ (Grow.refl _) rfl
        refine Plan.det 5 rfl (Grow.refl) ?_
        apply Exists.intro
        refine ⟨fun vs x hR hF K hK => ?_, ?_⟩
        · have f2 := hF 1 _ _ rfl rfl; have f3 := hF 0 _ _ rfl rfl; clear hF
          go_simp
          exact hK _ _ (Grow.refl _) rfl
        refine Plan.det 6 rfl (Grow.refl) ?_
        apply Exists.intro
        refine ⟨fun vs x hR hF K hK => ?_, ?_⟩
        · have f4 := hF 0 _ _ rfl rfl; clear hF
          go_simp
          exact hK _ _ (Grow.refl _) rfl
        refine Plan.det 7 rfl (Grow.refl) ?_
        apply Exists.intro
        refine ⟨fun vs x hR hF K hK => ?_, ?_⟩
        · have f5 := hF 0 _ _ rfl rfl; have hc := HC.out x hR; clear hF
          go_simp
          exact hK _ _ (Grow.refl _) rfl
        refine Plan.det 8 rfl (Grow.refl) ?_
        apply Exists.intro
        refine ⟨fun vs x hR hF K hK => ?_, ?_⟩
        · have f1 := hF 5 _ _ rfl rfl; have f6 := hF 0 _ _ rfl rfl; clear hF
          obtain ⟨a', c', e1, hi⟩ := f1
          have hh := has9_any x _ _ u1 hi (by rw [List.length_map]; omega)
          rw [HD1.out] at hh
          go_simp
          refine hh.mono ?_
          rintro e x1 ⟨rfl, hbe⟩
          exact ⟨_, rfl, hK _ _ hbe rfl⟩
        refine Plan.det 9 rfl (Grow.refl) ?_
        apply Exists.intro
        refine ⟨fun vs x hR hF K hK => ?_, ?_⟩
        · have f7 := hF 0 _ _ rfl rfl; clear hF
          go_simp
          exact hK _ _ (Grow.refl _) rfl
        refine Plan.det 10 rfl (Grow.refl) ?_
        apply Exists.intro
        refine ⟨fun vs x hR hF K hK => ?_, ?_⟩
        · have f7 := hF 1 _ _ rfl rfl; have f8 := hF 0 _ _ rfl rfl; clear hF
          go_simp
          exact hK _ _ (Grow.refl _) rfl
        refine Plan.det 11 rfl (Grow.refl) ?_
        apply Exists.intro
        refine ⟨fun vs x hR hF K hK => ?_, ?_⟩
        · have f9 := hF 0 _ _ rfl rfl; clear hF
          go_simp
          exact hK _ _ (Grow.refl _) rfl
        refine Plan.rel 12 rfl (Grow.refl) (fun v y => ∃ (a' : Option Addr) (c' : Nat), v = .slice a' m.length c' ∧ IntQ y (.slice a' m.length c') (m.map Prod.fst)) (fun v a b hR ⟨a', c', h1, h2⟩ => ⟨a', c', h1, h2.below hR⟩) (fun vs x hR hF K hK => ?_) ?_
        · have f9 := hF 1 _ _ rfl rfl; have f10 := hF 0 _ _ rfl rfl
          go_simp
          refine (HE2.out x hR).mono ?_
          rintro e x1 ⟨a', c', rfl, hbe, hi⟩
          exact ⟨_, rfl, hK _ _ hbe ⟨a', c', rfl, hi⟩⟩
        refine Plan.det 13 rfl (Grow.refl) ?_
        apply Exists.intro
        refine ⟨fun vs x hR hF K hK => ?_, ?_⟩
        · have f9 := hF 2 _ _ rfl rfl; clear hF
          go_simp
          exact hK _ _ (Grow.refl _) rfl
        refine Plan.det 14 rfl (Grow.refl) ?_
        apply Exists.intro
        refine ⟨fun vs x hR hF K hK => ?_, ?_⟩
        · have f9 := hF 3 _ _ rfl rfl; clear hF
          go_simp
          exact hK _ _ (Grow.refl _) rfl
        refine Plan.det 15 rfl (Grow.refl) ?_
        apply Exists.intro
        refine ⟨fun vs x hR hF K hK => ?_, ?_⟩
        · have f9 := hF 4 _ _ rfl rfl; have f12 := hF 1 _ _ rfl rfl; have f13 := hF 0 _ _ rfl rfl; clear hF
          go_simp
          exact hK _ _ (Grow.refl _) rfl
        refine Plan.det 16 rfl (Grow.refl) ?_
        apply Exists.intro
        refine ⟨fun vs x hR hF K hK => ?_, ?_⟩
        · have f9 := hF 5 _ _ rfl rfl; have f14 := hF 0 _ _ rfl rfl; clear hF
          go_simp
          exact hK _ _ (Grow.refl _) rfl
        refine Plan.det 17 rfl (Grow.refl) ?_
        apply Exists.intro
        refine ⟨fun vs x hR hF K hK => ?_, ?_⟩
        · have f9 := hF 6 _ _ rfl rfl; have f15 := hF 0 _ _ rfl rfl; have hc := HC.out x hR; clear hF
          go_simp
          exact hK _ _ (Grow.refl _) rfl
        refine Plan.det 18 rfl (Grow.refl) ?_
        apply Exists.intro
        refine ⟨fun vs x hR hF K hK => ?_, ?_⟩
        · have f9 := hF 7 _ _ rfl rfl; have f11 := hF 5 _ _ rfl rfl; have f16 := hF 0 _ _ rfl rfl; clear hF
          obtain ⟨a', c', e1, hi⟩ := f11
          have hh := has9_any x _ _ u1 hi (by rw [List.length_map]; have := HLM.out; omega)
          rw [HD2.out] at hh
          go_simp
          refine hh.mono ?_
          rintro e x1 ⟨rfl, hbe⟩
          exact ⟨_, rfl, hK _ _ hbe rfl⟩
        refine Plan.det 19 rfl (Grow.refl) ?_
        apply Exists.intro
        refine ⟨fun vs x hR hF K hK => ?_, ?_⟩
        · have f9 := hF 8 _ _ rfl rfl; have f17 := hF 0 _ _ rfl rfl; clear hF
          go_simp
          exact hK _ _ (Grow.refl _) rfl
        refine Plan.det 20 rfl (Grow.refl) ?_
        apply Exists.intro
        refine ⟨fun vs x hR hF K hK => ?_, ?_⟩
        · have f9 := hF 9 _ _ rfl rfl; have f18 := hF 0 _ _ rfl rfl; clear hF
          go_simp
          exact hK _ _ (Grow.refl _) rfl
        refine Plan.nil (fun vs x hR hF => ?_)
        have f0 := hF 19 _ _ rfl; have f1 := hF 18 _ _ rfl; have f2 := hF 17 _ _ rfl; have f3 := hF 16 _ _ rfl; have f4 := hF 15 _ _ rfl; have f5 := hF 14 _ _ rfl; have f6 := hF 13 _ _ rfl; have f7 := hF 12 _ _ rfl; have f8 := hF 11 _ _ rfl; have f9 := hF 10 _ _ rfl; have f10 := hF 9 _ _ rfl; have f11 := hF 8 _ _ rfl; have f12 := hF 7 _ _ rfl; have f13 := hF 6 _ _ rfl; have f14 := hF 5 _ _ rfl; have f15 := hF 4 _ _ rfl; have f16 := hF 3 _ _ rfl; have f17 := hF 2 _ _ rfl; have f18 := hF 1 _ _ rfl; have f19 := hF 0 _ _ rfl
        clear hF
        simp only [f0, f2, f3, f4, f5, f6, f7, f8, f9, f10, f12, f13, f14, f15, f16, f17, f18, f19]
        clear f0 f2 f3 f4 f5 f6 f7 f8 f9 f10 f12 f13 f14 f15 f16 f17 f18 f19
        simp only [List.drop_succ_cons, List.drop_zero]
        have HBZ := hid (HB.out.trans ((grow_below hR).mono HB.out.size))
        clear HC HE1 HE2 hR
        go_wp2_with fail
        refine ⟨⟨i + 1, by omega, by go_num, HBZ.out⟩, ?_⟩
        simp [intOf]
        omega
    · have hltI : ¬ (i : Int) < (al.length : Int) := by omega
      go_wp2_with fail
      obtain ⟨wo, hwo⟩ : ∃ wo : World, wo = wr := ⟨_, rfl⟩
      rw [← hwo] at HL13
      subst hwo
      clear HB hi hlt hltI
      go_loopw [16, 17] (fun o v wr => ∃ i : Nat, i ≤ l.length ∧ v = .int .i64 i ∧ Hid (Below wo.heap.size wo wr ∧ OwnI wr wo.heap.size o (gath b s lines l i) ∧ (gath b s lines l i = [] → o = .slice none 0 0))) (fun _ v _ => l.length - (intOf v).toNat)
      case atStart => exact ⟨0, Nat.zero_le _, rfl, Below.refl _ _, OwnI.nil _ _, fun _ => rfl⟩
      case round =>
        obtain ⟨i, hi, rfl, HB⟩ := hrel
        obtain ⟨ao, co, eo⟩ := HB.out.2.1.form
        have hgl := gath_le b s lines l i hl4
        obtain ⟨G, hG⟩ : ∃ G, G = gath b s lines l i := ⟨_, rfl⟩
        rw [← hG] at HB eo hgl
        have HG := hid hG
        subst eo
        have HL14 := hid (HL13.out.later HB.out.1)
        by_cases hlt : i < l.length
        · have hltI : (i : Int) < (l.length : Int) := by omega
          obtain ⟨bb, cc, u1, u2, sa, sc, hq, ev, hb, -, -, p0, -, -⟩ := HL14.out.2.1.get hlt
          injection ev with e1 e2 e3
          subst e1; subst e3
          have hmem := List.mem_of_getElem? hq
          obtain ⟨⟨nx, xn⟩, hrn⟩ : ∃ r, r = parsesR b s u1 lines := ⟨_, rfl⟩
          have hn0 := HNX.out (u1, u2) hmem
          dsimp only at hn0
          rw [← hrn] at hn0
          obtain rfl : xn = 0 := hn0
          have hgn : gath b s lines l (i + 1) = G ++ nx.map Prod.fst := by
            rw [hG]
            unfold gath
            rw [List.take_add_one, hq, List.flatMap_append]
            congr 1
            show endsR (parsesR b s u1 lines) ++ [] = _
            rw [← hrn, List.append_nil]; rfl
          have HGN := hid hgn
          have hsub : ∀ x, x ∈ nx.map Prod.fst → x ∈ ct.map Prod.fst := fun x hx => (HCAT.out x).2 ⟨(u1, u2), hmem, by show x ∈ endsR (parsesR b s u1 lines); rw [← hrn]; exact hx⟩
          have HSUB := hid hsub
          have hnl := parsesR_len (t := b) (s := s) (at_ := u1) (lines := lines)
          rw [← hrn] at hnl
          have HNL := hid hnl
          have HRN := hid hrn
          have HC0 := hid (⟨p0, hb⟩ : _ ∧ _)
          have HC := hid (fun (y : World) (hy : Grow wr.drew y) => (⟨((grow_below hy).cell (p := ⟨bb, i * 2, none⟩) HC0.out.2).trans HC0.out.1, (HL14.out.1.later (grow_below hy)).1.2.1.c9, (HL14.out.1.later (grow_below hy)).1.2.2.three9⟩ : _ ∧ _ ∧ _))
          clear e2 hq hb hmem hgn hsub hnl hG hrn
          go_wp2_with fail
          refine wp_region_two 10 16 rfl (Grow) (by kernel_rfl) (by kernel_rfl) (Grow.refl) (fun _ _ _ => Grow.trans) ?_
          simp only [fill, dstOf, Act.put, List.take_succ_cons, List.take_zero, List.getElem?_toArray, List.getElem?_cons_zero, List.getElem?_cons_succ, Option.bind_some, List.setIfInBounds_toArray, List.set_cons_zero, List.set_cons_succ]
          refine Plan.det 1 rfl (Grow.refl) ?_
          apply Exists.intro
          refine ⟨fun vs x hR hF K hK => ?_, ?_⟩
          · have hc := HC.out x hR; clear hF
            go_simp
            exact hK _ _ (Grow.refl _) rfl
          refine Plan.det 2 rfl (Grow.refl) ?_
          apply Exists.intro
          refine ⟨fun vs x hR hF K hK => ?_, ?_⟩
          · clear hF
            go_simp
            exact hK _ _ (Grow.refl _) rfl
          refine Plan.det 3 rfl (Grow.refl) ?_
          apply Exists.intro
          refine ⟨fun vs x hR hF K hK => ?_, ?_⟩
          · have f1 := hF 0 _ _ rfl rfl; have hc := HC.out x hR; clear hF
            go_simp
            exact hK _ _ (Grow.refl _) rfl
          refine Plan.det 4 rfl (Grow.refl) ?_
          apply Exists.intro
          refine ⟨fun vs x hR hF K hK => ?_, ?_⟩
          · clear hF
            go_simp
            exact hK _ _ (Grow.refl _) rfl
          refine Plan.det 5 rfl (Grow.refl) ?_
          apply Exists.intro
          refine ⟨fun vs x hR hF K hK => ?_, ?_⟩
          · clear hF
            go_simp
            exact hK _ _ (Grow.refl _) rfl
          refine Plan.det 6 rfl (Grow.refl) ?_
          apply Exists.intro
          refine ⟨fun vs x hR hF K hK => ?_, ?_⟩
          · have f3 := hF 1 _ _ rfl rfl; have f4 := hF 0 _ _ rfl rfl; clear hF
            go_simp
            exact hK _ _ (Grow.refl _) rfl
          refine Plan.det 7 rfl (Grow.refl) ?_
          apply Exists.intro
          refine ⟨fun vs x hR hF K hK => ?_, ?_⟩
          · have f5 := hF 0 _ _ rfl rfl; clear hF
            go_simp
            exact hK _ _ (Grow.refl _) rfl
          refine Plan.det 8 rfl (Grow.refl) ?_
          apply Exists.intro
          refine ⟨fun vs x hR hF K hK => ?_, ?_⟩
          · have f6 := hF 0 _ _ rfl rfl; have hc := HC.out x hR; clear hF
            go_simp
            exact hK _ _ (Grow.refl _) rfl
          refine Plan.det 9 rfl (Grow.refl) ?_
          apply Exists.intro
          refine ⟨fun vs x hR hF K hK => ?_, ?_⟩
          · clear hF
            go_simp
            exact hK _ _ (Grow.refl _) rfl
          refine Plan.det 10 rfl (Grow.refl) ?_
          apply Exists.intro
          refine ⟨fun vs x hR hF K hK => ?_, ?_⟩
          · have f8 := hF 0 _ _ rfl rfl; have hc := HC.out x hR; clear hF
            go_simp
            exact hK _ _ (Grow.refl _) rfl
          refine PlanEnd (by simp) (fun vs x hR hF => ?_)
          have f0 := hF 9 _ _ rfl; have f1 := hF 8 _ _ rfl; have f2 := hF 7 _ _ rfl; have f3 := hF 6 _ _ rfl; have f4 := hF 5 _ _ rfl; have f5 := hF 4 _ _ rfl; have f6 := hF 3 _ _ rfl; have f7 := hF 2 _ _ rfl; have f8 := hF 1 _ _ rfl; have f9 := hF 0 _ _ rfl
          clear hF
          simp only [f0, f1, f2, f3, f4, f5, f6, f7, f8, f9]
          clear f0 f1 f2 f3 f4 f5 f6 f7 f8 f9
          intro oo hoo KQ hK
          obtain rfl := Option.some.inj hoo
          clear hoo
          have HLY := hid (HL14.out.later (grow_below hR))
          have hpp := PParses_any x b [.int .i64 pb.op, .int .u64 pb.set.a, .int .u64 pb.set.b, .int .u64 pb.set.c, .int .u64 pb.set.d, .int .i64 pb.lo, .int .i64 pb.hi, .int .i64 pb.gr, .slice ab mb cb] s u1 lines HLY.out.1.2.2.1.2 (by have := HZB.out; omega) (by omega) HLY.out.1.2.2.2
          rw [← HRN.out] at hpp
          have HPP := hid hpp
          have HBX := hid (HB.out.1.trans ((grow_below hR).mono HB.out.1.size))
          have HOX := hid (HB.out.2.1.below (grow_below hR))
          clear hpp hR
          go_simp
          refine HPP.out.mono ?_
          rintro e w15 ⟨a15, c15, rfl, hb, hps⟩
          dsimp only at hps ⊢
          have HL15 := hid (HLY.out.later hb)
          have HB15 := hid (⟨HBX.out.trans (hb.mono HBX.out.size), HOX.out.below hb, hps⟩ : Below wo.heap.size wo w15 ∧ OwnI w15 wo.heap.size (.slice ao G.length co) G ∧ PsQ _ w15 (.slice a15 nx.length c15) nx)
          refine ⟨_, rfl, hK _ _ ?_⟩
          clear hK hb hps
          unfold AfterC
          simp only [fill, dstOf, Act.put, List.getElem?_toArray, List.getElem?_cons_zero, List.getElem?_cons_succ, Option.bind_some, List.setIfInBounds_toArray, List.set_cons_zero, List.set_cons_succ, List.drop_succ_cons, List.drop_zero]
          refine Plan.det 12 rfl (fun _ => rfl) ?_
          apply Exists.intro
          refine ⟨fun vs x hR hF K hK => ?_, ?_⟩
          · have f10 := hF 0 _ _ rfl rfl; clear hF
            go_simp
            exact hK _ _ rfl rfl
          refine Plan.det 13 rfl (fun _ => rfl) ?_
          apply Exists.intro
          refine ⟨fun vs x hR hF K hK => ?_, ?_⟩
          · have f11 := hF 0 _ _ rfl rfl; clear hF
            go_simp
            exact hK _ _ rfl rfl
          refine Plan.det 14 rfl (fun _ => rfl) ?_
          apply Exists.intro
          refine ⟨fun vs x hR hF K hK => ?_, ?_⟩
          · have f11 := hF 1 _ _ rfl rfl; clear hF
            go_simp
            exact hK _ _ rfl rfl
          refine Plan.det 15 rfl (fun _ => rfl) ?_
          apply Exists.intro
          refine ⟨fun vs x hR hF K hK => ?_, ?_⟩
          · have f10 := hF 3 _ _ rfl rfl; have f11 := hF 2 _ _ rfl rfl; have f12 := hF 1 _ _ rfl rfl; clear hF
            go_simp
            exact hK _ _ rfl rfl
          refine Plan.det 16 rfl (fun _ => rfl) ?_
          apply Exists.intro
          refine ⟨fun vs x hR hF K hK => ?_, ?_⟩
          · have f10 := hF 4 _ _ rfl rfl; have f11 := hF 3 _ _ rfl rfl; have f12 := hF 2 _ _ rfl rfl; have f13 := hF 1 _ _ rfl rfl; have f14 := hF 0 _ _ rfl rfl; clear hF
            go_simp
            exact hK _ _ rfl rfl
          refine Plan.nil (fun vs x hR2 hF => ?_)
          have f10 := hF 5 _ _ rfl; have f11 := hF 4 _ _ rfl; have f12 := hF 3 _ _ rfl; have f13 := hF 2 _ _ rfl; have f14 := hF 1 _ _ rfl; have f15 := hF 0 _ _ rfl
          clear hF
          simp only [f10, f11, f12, f13, f14, f15]
          clear f10 f11 f12 f13 f14 f15
          subst hR2
          simp only [List.drop_succ_cons, List.drop_nil]
          clear HC p0
          have HE1 := hid (ends9_any w15 _ _ nx HB15.out.2.2 (by have := HNL.out; omega))
          go_wp2_with fail
          refine HE1.out.mono ?_
          rintro e w16 ⟨ae1, ce1, rfl, hb, hi1⟩
          have HL16 := hid (HL15.out.later hb)
          have HB16 := hid (⟨HB15.out.1.trans (hb.mono HB15.out.1.size), HB15.out.2.1.below hb, HB15.out.2.2.below hb⟩ : Below wo.heap.size wo w16 ∧ OwnI w16 wo.heap.size (.slice ao G.length co) G ∧ PsQ _ w16 (.slice a15 nx.length c15) nx)
          have HI1 := hid hi1
          clear hb hi1 HE1
          have HE2 := hid (ends9_any w16 _ _ ct HL16.out.2.2.2.2 (by have := HLE.out.2.2.2; omega))
          go_wp2_with fail
          refine HE2.out.mono ?_
          rintro e w17 ⟨ae2, ce2, rfl, hb, hi1⟩
          have HL17 := hid (HL16.out.later hb)
          have HB17 := hid (⟨HB16.out.1.trans (hb.mono HB16.out.1.size), HB16.out.2.1.below hb, HB16.out.2.2.below hb⟩ : Below wo.heap.size wo w17 ∧ OwnI w17 wo.heap.size (.slice ao G.length co) G ∧ PsQ _ w17 (.slice a15 nx.length c15) nx)
          have hw := within9_any w17 _ _ _ _ (HI1.out.below hb) hi1 (by rw [List.length_map]; have := HNL.out; omega) (by rw [List.length_map]; have := HLE.out.2.2.2; omega)
          rw [decide_eq_true HSUB.out] at hw
          have HW := hid hw
          clear hb hi1 HE2 HI1 hw
          go_wp2_with fail
          refine HW.out.mono ?_
          rintro e w18 ⟨rfl, hb⟩
          have HL18 := hid (HL17.out.later hb)
          have HB18 := hid (⟨HB17.out.1.trans (hb.mono HB17.out.1.size), HB17.out.2.1.below hb, HB17.out.2.2.below hb⟩ : Below wo.heap.size wo w18 ∧ OwnI w18 wo.heap.size (.slice ao G.length co) G ∧ PsQ _ w18 (.slice a15 nx.length c15) nx)
          clear hb HW
          have HE3 := hid (ends9_any w18 _ _ nx HB18.out.2.2 (by have := HNL.out; omega))
          go_wp2_with fail
          refine HE3.out.mono ?_
          rintro e w19 ⟨ae3, ce3, rfl, hb, hi1⟩
          have HB19 := hid (⟨HB18.out.1.trans (hb.mono HB18.out.1.size), HB18.out.2.1.below hb, hi1⟩ : Below wo.heap.size wo w19 ∧ OwnI w19 wo.heap.size (.slice ao G.length co) G ∧ IntQ w19 (.slice ae3 nx.length ce3) (nx.map Prod.fst))
          have HNL2 := hid (show G.length + (nx.map Prod.fst).length ≤ 1000000000 by rw [List.length_map]; have := HNL.out; omega)
          clear hb hi1 HE3
          go_wp2_with (at_builtin; refine wpList_append_ints rfl _ _ rfl wo.heap.size _ G (nx.map Prod.fst) _ rfl HB19.out.2.1 rfl HB19.out.2.2 HNL2.out HB19.out.1.size ?_)
          intro v' w20 ho2 hg2 hnil
          obtain ⟨a20, c20, rfl⟩ := ho2.form
          have HZ : Hid (Below wo.heap.size wo w20 ∧ OwnI w20 wo.heap.size (.slice a20 (G ++ nx.map Prod.fst).length c20) (gath b s lines l (i + 1)) ∧ (gath b s lines l (i + 1) = [] → (.slice a20 (G ++ nx.map Prod.fst).length c20 : Value) = .slice none 0 0)) := by
            rw [HGN.out]
            refine ⟨HB19.out.1.grown hg2 HB19.out.1.size (fun g hg => (HB19.out.2.1.lt g hg).1), ho2, fun h => ?_⟩
            obtain ⟨h1, h2⟩ := List.append_eq_nil_iff.1 h
            have hv0 : (.slice ao G.length co : Value) = .slice none 0 0 ∧ nx.map Prod.fst = [] := ⟨HB.out.2.2 h1, h2⟩
            exact hnil.2 (by simpa using hv0)
          clear ho2 hg2 hnil
          generalize (G ++ nx.map Prod.fst).length = n20 at HZ ⊢
          go_wp2_with fail
          refine ⟨⟨i + 1, by omega, by go_num, HZ.out⟩, ?_⟩
          simp [intOf]
          omega
        · have hltI : ¬ (i : Int) < (l.length : Int) := by omega
          obtain rfl : i = l.length := by omega
          have hall : ∀ x, x ∈ ct.map Prod.fst → x ∈ G := by
            intro x hx
            obtain ⟨q, hq, hx⟩ := (HCAT.out x).1 hx
            rw [hG]
            unfold gath
            rw [List.take_length]
            exact List.mem_flatMap.2 ⟨q, hq, hx⟩
          have HALL := hid hall
          clear hall hG
          have HE1 := hid (ends9_any wr _ _ ct HL14.out.2.2.2.2 (by have := HLE.out.2.2.2; omega))
          go_wp2_with fail
          refine HE1.out.mono ?_
          rintro e w16 ⟨ae1, ce1, rfl, hb, hi1⟩
          have HL16 := hid (HL14.out.later hb)
          have hw := within9_any w16 _ _ _ _ hi1 ((HB.out.2.1.q HB.out.2.2).below hb) (by rw [List.length_map]; have := HLE.out.2.2.2; omega) (by omega)
          rw [decide_eq_true HALL.out] at hw
          have HW := hid hw
          clear hb hi1 HE1 hw
          go_wp2_with fail
          refine HW.out.mono ?_
          rintro e w17 ⟨rfl, hb⟩
          have HL17 := hid (HL16.out.later hb)
          clear hb HW
          go_wp2_with fail
          refine (HAW.out _ HL17.out.1).mono ?_
          rintro e w99 ⟨rfl, hb⟩
          have HB := hid hb
          clear hb
          go_wp2_with fail
          all_goals (try go_ret)
          all_goals exact ⟨rfl, HB.out⟩
end Go.Proofs.YtkinnfejgpnddaaDoor
