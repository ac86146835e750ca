/- What is known of a tree: nullable, lengths, first bytes. The program's cat and alt of two such facts. -/
import Derived.Test.YtibfnmkeghkdpaaNum
import Derived.Test.YtibfnmkeghkdpaaCs2
import Derived.Test.YtibfnmkeghkdpaaInv
namespace Go.Proofs.Ytibfnmkeghkdpaa
open Go.RowKit
attribute [local go_sem] gives givesUpon

-- def FA := .agg #[.bool a.null, .int .i64 a.least, .int .i64 a.most, .int .u64 a.first.a, .int .u64 a.first.b, .int .u64 a.first.c, .int .u64 a.first.d]
-- def FB := .agg #[.bool b.null, .int .i64 b.least, .int .i64 b.most, .int .u64 b.first.a, .int .u64 b.first.b, .int .u64 b.first.c, .int .u64 b.first.d]
-- def CA := [.bool a.null, .int .i64 a.least, .int .i64 a.most, .int .u64 a.first.a, .int .u64 a.first.b, .int .u64 a.first.c, .int .u64 a.first.d]
-- def CB := [.bool b.null, .int .i64 b.least, .int .i64 b.most, .int .u64 b.first.a, .int .u64 b.first.b, .int .u64 b.first.c, .int .u64 b.first.d]
-- def C0 := [.bool false, .int .i64 0, .int .i64 0, .int .u64 0, .int .u64 0, .int .u64 0, .int .u64 0]
-- def W3 := (((w.alloc (.cells #[.bool a.null, .int .i64 a.least, .int .i64 a.most, .int .u64 a.first.a, .int .u64 a.first.b, .int .u64 a.first.c, .int .u64 a.first.d] 66)).alloc (.cells #[.bool b.null, .int .i64 b.least, .int .i64 b.most, .int .u64 b.first.a, .int .u64 b.first.b, .int .u64 b.first.c, .int .u64 b.first.d] 66)).alloc (.cells #[.bool false, .int .i64 0, .int .i64 0, .int .u64 0, .int .u64 0, .int .u64 0, .int .u64 0] 66))

def Grow (x y : World) : Prop := Below x.heap.size x y
theorem Grow.refl (x : World) : Grow x x := Below.refl _ x
theorem Grow.trans {x y z : World} (h : Grow x y) (k : Grow y z) : Grow x z := Below.trans h (k.mono h.size)
theorem Grow.alloc (x : World) (o : Obj) : Grow x (x.alloc o) := (Below.refl _ x).alloc (Nat.le_refl _) _
theorem Grow.size {x y : World} (h : Grow x y) : x.heap.size ≤ y.heap.size := Below.size h

structure Facts where
  null : Bool
  least : Int
  most : Int
  first : Cs
deriving DecidableEq
structure Facts.wf (f : Facts) : Prop where
  least : Len f.least
  most : Len f.most
  first : f.first.wf
def Facts.cells (f : Facts) : List Value := [.bool f.null, .int .i64 f.least, .int .i64 f.most, .int .u64 f.first.a, .int .u64 f.first.b, .int .u64 f.first.c, .int .u64 f.first.d]
def Facts.cat (a b : Facts) : Facts := ⟨a.null && b.null, lsum a.least b.least, lsum a.most b.most, if a.null then a.first.union b.first else a.first⟩
def Facts.alt (a b : Facts) : Facts := ⟨a.null || b.null, min a.least b.least, if a.most < 0 ∨ b.most < 0 then -1 else max a.most b.most, a.first.union b.first⟩

theorem Row.c7f {w : World} {B : Nat} {a b c d e f g : Value} {T : TypeId} (h : Row w B [a, b, c, d, e, f, g] T) :
    (w.cell? ⟨B, 0, none⟩ = some a ∧ w.cell? ⟨B, 1, none⟩ = some b ∧ w.cell? ⟨B, 2, none⟩ = some c ∧ w.cell? ⟨B, 3, none⟩ = some d ∧ w.cell? ⟨B, 4, none⟩ = some e ∧ w.cell? ⟨B, 5, none⟩ = some f ∧ w.cell? ⟨B, 6, none⟩ = some g) ∧
    (w.frozen? ⟨B, 0, none⟩ = false ∧ w.frozen? ⟨B, 1, none⟩ = false ∧ w.frozen? ⟨B, 2, none⟩ = false ∧ w.frozen? ⟨B, 3, none⟩ = false ∧ w.frozen? ⟨B, 4, none⟩ = false ∧ w.frozen? ⟨B, 5, none⟩ = false ∧ w.frozen? ⟨B, 6, none⟩ = false) :=
  ⟨⟨h.cell 0, h.cell 1, h.cell 2, h.cell 3, h.cell 4, h.cell 5, h.cell 6⟩, h.free 0, h.free 1, h.free 2, h.free 3, h.free 4, h.free 5, h.free 6⟩

theorem Row.set7 {w : World} {B : Nat} {a b c d e f g : Value} {T : TypeId} (h : Row w B [a, b, c, d, e, f, g] T) (a' b' c' d' e' f' g' : Value) : Row (((((((w.setCell ⟨B, 0, none⟩ a').setCell ⟨B, 1, none⟩ b').setCell ⟨B, 2, none⟩ c').setCell ⟨B, 3, none⟩ d').setCell ⟨B, 4, none⟩ e').setCell ⟨B, 5, none⟩ f').setCell ⟨B, 6, none⟩ g') B [a', b', c', d', e', f', g'] T :=
  ((((((h.set 0 _).set 1 _).set 2 _).set 3 _).set 4 _).set 5 _).set 6 _
theorem Row.other7 {w : World} {B B' : Nat} {cs : List Value} {T : TypeId} (h : Row w B cs T) (hn : B ≠ B') (a' b' c' d' e' f' g' : Value) : Row (((((((w.setCell ⟨B', 0, none⟩ a').setCell ⟨B', 1, none⟩ b').setCell ⟨B', 2, none⟩ c').setCell ⟨B', 3, none⟩ d').setCell ⟨B', 4, none⟩ e').setCell ⟨B', 5, none⟩ f').setCell ⟨B', 6, none⟩ g') B cs T :=
  ((((((h.other hn _ _).other hn _ _).other hn _ _).other hn _ _).other hn _ _).other hn _ _).other hn _ _
theorem below7 {n : Nat} {w x : World} {B : Nat} (h : Below n w x) (hB : n ≤ B) (a' b' c' d' e' f' g' : Value) : Below n w (((((((x.setCell ⟨B, 0, none⟩ a').setCell ⟨B, 1, none⟩ b').setCell ⟨B, 2, none⟩ c').setCell ⟨B, 3, none⟩ d').setCell ⟨B, 4, none⟩ e').setCell ⟨B, 5, none⟩ f').setCell ⟨B, 6, none⟩ g') :=
  ((((((h.setCell hB _).setCell hB _).setCell hB _).setCell hB _).setCell hB _).setCell hB _).setCell hB _
theorem size_facts (a b c d e f g : Value) : (Try.prog.info? 66).map (·.size) = some [a, b, c, d, e, f, g].length := by show _ = some 7; kernel_rfl

set_option maxHeartbeats 2000000 in
theorem cat_any (a b : Facts) (w : World) (ha : a.wf) (hb : b.wf) :
    Calls Try.prog 69 #[.agg #[.bool a.null, .int .i64 a.least, .int .i64 a.most, .int .u64 a.first.a, .int .u64 a.first.b, .int .u64 a.first.c, .int .u64 a.first.d], .agg #[.bool b.null, .int .i64 b.least, .int .i64 b.most, .int .u64 b.first.a, .int .u64 b.first.b, .int .u64 b.first.c, .int .u64 b.first.d]] w fun e w' =>
      e = .returned (.agg (a.cat b).cells.toArray) ∧ Below w.heap.size w w' := by
  have HS1 := hid (fun x => sum_any a.least b.least x ha.least hb.least)
  have HS2 := hid (fun x => sum_any a.most b.most x ha.most hb.most)
  have HU := hid (fun x => Union_any a.first b.first x ha.first hb.first)
  have HR : Hid (Row (((w.alloc (.cells #[.bool a.null, .int .i64 a.least, .int .i64 a.most, .int .u64 a.first.a, .int .u64 a.first.b, .int .u64 a.first.c, .int .u64 a.first.d] 66)).alloc (.cells #[.bool b.null, .int .i64 b.least, .int .i64 b.most, .int .u64 b.first.a, .int .u64 b.first.b, .int .u64 b.first.c, .int .u64 b.first.d] 66)).alloc (.cells #[.bool false, .int .i64 0, .int .i64 0, .int .u64 0, .int .u64 0, .int .u64 0, .int .u64 0] 66)) w.heap.size [.bool a.null, .int .i64 a.least, .int .i64 a.most, .int .u64 a.first.a, .int .u64 a.first.b, .int .u64 a.first.c, .int .u64 a.first.d] 66 ∧ Row (((w.alloc (.cells #[.bool a.null, .int .i64 a.least, .int .i64 a.most, .int .u64 a.first.a, .int .u64 a.first.b, .int .u64 a.first.c, .int .u64 a.first.d] 66)).alloc (.cells #[.bool b.null, .int .i64 b.least, .int .i64 b.most, .int .u64 b.first.a, .int .u64 b.first.b, .int .u64 b.first.c, .int .u64 b.first.d] 66)).alloc (.cells #[.bool false, .int .i64 0, .int .i64 0, .int .u64 0, .int .u64 0, .int .u64 0, .int .u64 0] 66)) (w.heap.size + 1) [.bool b.null, .int .i64 b.least, .int .i64 b.most, .int .u64 b.first.a, .int .u64 b.first.b, .int .u64 b.first.c, .int .u64 b.first.d] 66 ∧ Row (((w.alloc (.cells #[.bool a.null, .int .i64 a.least, .int .i64 a.most, .int .u64 a.first.a, .int .u64 a.first.b, .int .u64 a.first.c, .int .u64 a.first.d] 66)).alloc (.cells #[.bool b.null, .int .i64 b.least, .int .i64 b.most, .int .u64 b.first.a, .int .u64 b.first.b, .int .u64 b.first.c, .int .u64 b.first.d] 66)).alloc (.cells #[.bool false, .int .i64 0, .int .i64 0, .int .u64 0, .int .u64 0, .int .u64 0, .int .u64 0] 66)) (w.heap.size + 2) [.bool false, .int .i64 0, .int .i64 0, .int .u64 0, .int .u64 0, .int .u64 0, .int .u64 0] 66 ∧ Below w.heap.size w (((w.alloc (.cells #[.bool a.null, .int .i64 a.least, .int .i64 a.most, .int .u64 a.first.a, .int .u64 a.first.b, .int .u64 a.first.c, .int .u64 a.first.d] 66)).alloc (.cells #[.bool b.null, .int .i64 b.least, .int .i64 b.most, .int .u64 b.first.a, .int .u64 b.first.b, .int .u64 b.first.c, .int .u64 b.first.d] 66)).alloc (.cells #[.bool false, .int .i64 0, .int .i64 0, .int .u64 0, .int .u64 0, .int .u64 0, .int .u64 0] 66))) :=
    ⟨((Row.new (cs := [_, _, _, _, _, _, _]) rfl).alloc _).alloc _, (Row.new (cs := [_, _, _, _, _, _, _]) (by simp)).alloc _, Row.new (cs := [_, _, _, _, _, _, _]) (by simp), (((Below.refl _ w).alloc (Nat.le_refl _) _).alloc (by simp) _).alloc (by simp; omega) _⟩
  have HC : Hid (∀ x, Grow (World.drew (((w.alloc (.cells #[.bool a.null, .int .i64 a.least, .int .i64 a.most, .int .u64 a.first.a, .int .u64 a.first.b, .int .u64 a.first.c, .int .u64 a.first.d] 66)).alloc (.cells #[.bool b.null, .int .i64 b.least, .int .i64 b.most, .int .u64 b.first.a, .int .u64 b.first.b, .int .u64 b.first.c, .int .u64 b.first.d] 66)).alloc (.cells #[.bool false, .int .i64 0, .int .i64 0, .int .u64 0, .int .u64 0, .int .u64 0, .int .u64 0] 66))) x → (x.cell? ⟨w.heap.size, 0, none⟩ = some (.bool a.null) ∧ x.cell? ⟨w.heap.size, 1, none⟩ = some (.int .i64 a.least) ∧ x.cell? ⟨w.heap.size, 2, none⟩ = some (.int .i64 a.most) ∧ x.cell? ⟨w.heap.size, 3, none⟩ = some (.int .u64 a.first.a) ∧ x.cell? ⟨w.heap.size, 4, none⟩ = some (.int .u64 a.first.b) ∧ x.cell? ⟨w.heap.size, 5, none⟩ = some (.int .u64 a.first.c) ∧ x.cell? ⟨w.heap.size, 6, none⟩ = some (.int .u64 a.first.d)) ∧
      (x.cell? ⟨w.heap.size + 1, 0, none⟩ = some (.bool b.null) ∧ x.cell? ⟨w.heap.size + 1, 1, none⟩ = some (.int .i64 b.least) ∧ x.cell? ⟨w.heap.size + 1, 2, none⟩ = some (.int .i64 b.most) ∧ x.cell? ⟨w.heap.size + 1, 3, none⟩ = some (.int .u64 b.first.a) ∧ x.cell? ⟨w.heap.size + 1, 4, none⟩ = some (.int .u64 b.first.b) ∧ x.cell? ⟨w.heap.size + 1, 5, none⟩ = some (.int .u64 b.first.c) ∧ x.cell? ⟨w.heap.size + 1, 6, none⟩ = some (.int .u64 b.first.d))) := fun x hx =>
    ⟨(HR.out.1.drew.below hx HR.out.1.drew.lt).c7f.1, (HR.out.2.1.drew.below hx HR.out.2.1.drew.lt).c7f.1⟩
  rcases (show a.null = true ∨ a.null = false by cases a.null <;> simp) with hn | hn
  · have HN := hid hn
    rw [hn] at HC HR
    rw [hn]
    clear hn ha hb
    go_enter Try.func69, Try.ntmps69
    go_wp2_with fail
    refine wp_region_inv 20 (Grow) (by kernel_rfl) (by kernel_rfl) (Grow.refl) (fun _ _ _ => Grow.trans) ?_
    simp only [fill, dstOf, Act.put, List.take_succ_cons, List.take_zero, List.getElem?_toArray, List.getElem?_cons_zero, List.getElem?_cons_succ, Option.bind_some, List.setIfInBounds_toArray, List.set_cons_zero, List.set_cons_succ]
    refine Plan.det 1 rfl (Grow.refl) ?_
    apply Exists.intro
    refine ⟨fun vs x hR hF K hK => ?_, ?_⟩
    · clear hF
      go_simp
      exact hK _ _ (Grow.refl _) rfl
    refine Plan.det 2 rfl (Grow.refl) ?_
    apply Exists.intro
    refine ⟨fun vs x hR hF K hK => ?_, ?_⟩
    · have f0 := hF 0 _ _ rfl rfl; have hc := HC.out x hR; clear hF
      go_simp
      exact hK _ _ (Grow.refl _) rfl
    refine Plan.det 3 rfl (Grow.refl) ?_
    apply Exists.intro
    refine ⟨fun vs x hR hF K hK => ?_, ?_⟩
    · have f1 := hF 0 _ _ rfl rfl; clear hF
      go_simp
      exact hK _ _ (Grow.refl _) rfl
    refine Plan.det 4 rfl (Grow.refl) ?_
    apply Exists.intro
    refine ⟨fun vs x hR hF K hK => ?_, ?_⟩
    · have f2 := hF 0 _ _ rfl rfl; clear hF
      go_simp
      exact hK _ _ (Grow.refl _) rfl
    refine Plan.det 5 rfl (Grow.refl) ?_
    apply Exists.intro
    refine ⟨fun vs x hR hF K hK => ?_, ?_⟩
    · have f2 := hF 1 _ _ rfl rfl; have f3 := hF 0 _ _ rfl rfl; have hc := HC.out x hR; clear hF
      go_simp
      exact hK _ _ (Grow.refl _) rfl
    refine Plan.det 6 rfl (Grow.refl) ?_
    apply Exists.intro
    refine ⟨fun vs x hR hF K hK => ?_, ?_⟩
    · have f2 := hF 2 _ _ rfl rfl; have f4 := hF 0 _ _ rfl rfl; clear hF
      go_simp
      exact hK _ _ (Grow.refl _) rfl
    refine Plan.det 7 rfl (Grow.refl) ?_
    apply Exists.intro
    refine ⟨fun vs x hR hF K hK => ?_, ?_⟩
    · clear hF
      go_simp
      exact hK _ _ (Grow.refl _) rfl
    refine Plan.det 8 rfl (Grow.refl) ?_
    apply Exists.intro
    refine ⟨fun vs x hR hF K hK => ?_, ?_⟩
    · have f6 := hF 0 _ _ rfl rfl; have hc := HC.out x hR; clear hF
      go_simp
      exact hK _ _ (Grow.refl _) rfl
    refine Plan.det 9 rfl (Grow.refl) ?_
    apply Exists.intro
    refine ⟨fun vs x hR hF K hK => ?_, ?_⟩
    · clear hF
      go_simp
      exact hK _ _ (Grow.refl _) rfl
    refine Plan.det 10 rfl (Grow.refl) ?_
    apply Exists.intro
    refine ⟨fun vs x hR hF K hK => ?_, ?_⟩
    · have f8 := hF 0 _ _ rfl rfl; have hc := HC.out x hR; clear hF
      go_simp
      exact hK _ _ (Grow.refl _) rfl
    refine Plan.det 11 rfl (Grow.refl) ?_
    apply Exists.intro
    refine ⟨fun vs x hR hF K hK => ?_, ?_⟩
    · have f2 := hF 7 _ _ rfl rfl; have f7 := hF 2 _ _ rfl rfl; have f9 := hF 0 _ _ rfl rfl; clear hF
      go_simp
      refine (HS1.out x).mono ?_
      rintro e x1 ⟨rfl, rfl⟩
      exact ⟨_, rfl, hK _ _ (Grow.refl _) rfl⟩
    refine Plan.det 12 rfl (Grow.refl) ?_
    apply Exists.intro
    refine ⟨fun vs x hR hF K hK => ?_, ?_⟩
    · clear hF
      go_simp
      exact hK _ _ (Grow.refl _) rfl
    refine Plan.det 13 rfl (Grow.refl) ?_
    apply Exists.intro
    refine ⟨fun vs x hR hF K hK => ?_, ?_⟩
    · have f11 := hF 0 _ _ rfl rfl; have hc := HC.out x hR; clear hF
      go_simp
      exact hK _ _ (Grow.refl _) rfl
    refine Plan.det 14 rfl (Grow.refl) ?_
    apply Exists.intro
    refine ⟨fun vs x hR hF K hK => ?_, ?_⟩
    · clear hF
      go_simp
      exact hK _ _ (Grow.refl _) rfl
    refine Plan.det 15 rfl (Grow.refl) ?_
    apply Exists.intro
    refine ⟨fun vs x hR hF K hK => ?_, ?_⟩
    · have f13 := hF 0 _ _ rfl rfl; have hc := HC.out x hR; clear hF
      go_simp
      exact hK _ _ (Grow.refl _) rfl
    refine Plan.det 16 rfl (Grow.refl) ?_
    apply Exists.intro
    refine ⟨fun vs x hR hF K hK => ?_, ?_⟩
    · have f10 := hF 4 _ _ rfl rfl; have f12 := hF 2 _ _ rfl rfl; have f14 := hF 0 _ _ rfl rfl; clear hF
      go_simp
      refine (HS2.out x).mono ?_
      rintro e x1 ⟨rfl, rfl⟩
      exact ⟨_, rfl, hK _ _ (Grow.refl _) rfl⟩
    refine Plan.det 17 rfl (Grow.refl) ?_
    apply Exists.intro
    refine ⟨fun vs x hR hF K hK => ?_, ?_⟩
    · clear hF
      go_simp
      exact hK _ _ (Grow.refl _) rfl
    refine Plan.det 18 rfl (Grow.refl) ?_
    apply Exists.intro
    refine ⟨fun vs x hR hF K hK => ?_, ?_⟩
    · have f16 := hF 0 _ _ rfl rfl; have hc := HC.out x hR; clear hF
      go_simp
      exact hK _ _ (Grow.refl _) rfl
    refine Plan.det 19 rfl (Grow.refl) ?_
    apply Exists.intro
    refine ⟨fun vs x hR hF K hK => ?_, ?_⟩
    · have f5 := hF 12 _ _ rfl rfl; have f10 := hF 7 _ _ rfl rfl; have f15 := hF 2 _ _ rfl rfl; have f17 := hF 0 _ _ rfl rfl; clear hF
      go_simp
      exact hK _ _ (Grow.refl _) rfl
    refine Plan.rel 20 rfl (Grow.refl) (fun v x => ∃ b, v = .pointer (some ⟨b, 0, none⟩) ∧ (w.heap.size + 3) ≤ b ∧ Row x b [.bool false, .int .i64 0, .int .i64 0, .int .u64 0, .int .u64 0, .int .u64 0, .int .u64 0] 66) (fun v x y hR ⟨b, h1, h2, h3⟩ => ⟨b, h1, h2, h3.below hR h3.lt⟩) (fun vs x hR hF K hK => ?_) ?_
    · skip
      go_simp
      exact hK _ _ (Grow.alloc _ _) ⟨_, rfl, (by have := Grow.size hR; simp at this; omega), Row.at _ _ _⟩
    refine Plan.nil (fun vs x hR hF => ?_)
    have f0 := hF 19 _ _ rfl; have f1 := hF 18 _ _ rfl; have f2 := hF 17 _ _ rfl; have f3 := hF 16 _ _ rfl; have f4 := hF 15 _ _ rfl; have f5 := hF 14 _ _ rfl; have f6 := hF 13 _ _ rfl; have f7 := hF 12 _ _ rfl; have f8 := hF 11 _ _ rfl; have f9 := hF 10 _ _ rfl; have f10 := hF 9 _ _ rfl; have f11 := hF 8 _ _ rfl; have f12 := hF 7 _ _ rfl; have f13 := hF 6 _ _ rfl; have f14 := hF 5 _ _ rfl; have f15 := hF 4 _ _ rfl; have f16 := hF 3 _ _ rfl; have f17 := hF 2 _ _ rfl; have f18 := hF 1 _ _ rfl; have f19 := hF 0 _ _ rfl
    clear hF
    simp only [f0, f1, f2, f3, f4, f5, f6, f7, f8, f9, f10, f11, f12, f13, f14, f15, f16, f17, f18]
    clear f0 f1 f2 f3 f4 f5 f6 f7 f8 f9 f10 f11 f12 f13 f14 f15 f16 f17 f18
    simp only [List.drop_succ_cons, List.drop_zero]
    obtain ⟨bk, e19, hbk, hrow⟩ := f19
    simp only [e19]
    have q1 := HC.out x hR
    have qb := hrow.c7f
    have hz := hrow.lt
    have HRO := hid hrow
    have HBX := hid (HR.out.2.2.2.drew.trans (hR.mono (by simp; omega)))
    have r1 := HR.out.1.drew.below hR HR.out.1.drew.lt
    have r2 := HR.out.2.2.1.drew.below hR HR.out.2.2.1.drew.lt
    have HR2 := hid r2
    have hx3 : w.heap.size + 3 ≤ x.heap.size := by have := Grow.size hR; simp at this; omega
    clear hR HC HR HS1 HS2 hrow r1 r2
    go_wp2_with fail
    refine (HU.out _).mono ?_
    rintro e w2 ⟨rfl, hb2⟩
    have s1 := (HRO.out.set7 _ _ _ _ _ _ _).below hb2 (by simpa using hz)
    have s2 := (HR2.out.other7 (B' := bk) (by omega) _ _ _ _ _ _ _).below hb2 (by simp; omega)
    have HB2 := hid ((below7 HBX.out (B := bk) (by omega) _ _ _ _ _ _ _).trans (hb2.mono (by simp; omega)))
    have p1 := s1.c7f
    have p2 := s2.c7f
    have z1 := s1.lt
    have z2 := s2.lt
    have HS1 := hid s1
    have HS2 := hid s2
    clear s1 s2 hb2 q1 qb
    go_wp2_with fail
    refine ret_row 4 66 rfl (w.heap.size + 2) rfl (a.cat b).cells (CellsAt.of_row (T := 66) ?_) _ Try.underlying66 rfl (size_facts _ _ _ _ _ _ _) rfl ⟨rfl, ?_⟩
    · rw [show (a.cat b).cells = [.bool b.null, .int .i64 (lsum a.least b.least), .int .i64 (lsum a.most b.most), .int .u64 (a.first.union b.first).a, .int .u64 (a.first.union b.first).b, .int .u64 (a.first.union b.first).c, .int .u64 (a.first.union b.first).d] by simp [Facts.cat, Facts.cells, HN.out]]
      exact ((((HS2.out.other (by omega) _ _).other (by omega) _ _).other (by omega) _ _).other (by omega) _ _).set7 _ _ _ _ _ _ _
    · have hbw : w.heap.size ≤ bk := by omega
      exact below7 ((((HB2.out.setCell hbw _).setCell hbw _).setCell hbw _).setCell hbw _) (by omega) _ _ _ _ _ _ _
  · have HN := hid hn
    rw [hn] at HC HR
    rw [hn]
    clear hn ha hb
    go_enter Try.func69, Try.ntmps69
    go_wp2_with fail
    refine wp_region_inv 20 (Grow) (by kernel_rfl) (by kernel_rfl) (Grow.refl) (fun _ _ _ => Grow.trans) ?_
    simp only [fill, dstOf, Act.put, List.take_succ_cons, List.take_zero, List.getElem?_toArray, List.getElem?_cons_zero, List.getElem?_cons_succ, Option.bind_some, List.setIfInBounds_toArray, List.set_cons_zero, List.set_cons_succ]
    refine Plan.det 1 rfl (Grow.refl) ?_
    apply Exists.intro
    refine ⟨fun vs x hR hF K hK => ?_, ?_⟩
    · clear hF
      go_simp
      exact hK _ _ (Grow.refl _) rfl
    refine Plan.det 2 rfl (Grow.refl) ?_
    apply Exists.intro
    refine ⟨fun vs x hR hF K hK => ?_, ?_⟩
    · have f0 := hF 0 _ _ rfl rfl; have hc := HC.out x hR; clear hF
      go_simp
      exact hK _ _ (Grow.refl _) rfl
    refine Plan.det 3 rfl (Grow.refl) ?_
    apply Exists.intro
    refine ⟨fun vs x hR hF K hK => ?_, ?_⟩
    · have f1 := hF 0 _ _ rfl rfl; clear hF
      go_simp
      exact hK _ _ (Grow.refl _) rfl
    refine Plan.det 4 rfl (Grow.refl) ?_
    apply Exists.intro
    refine ⟨fun vs x hR hF K hK => ?_, ?_⟩
    · have f2 := hF 0 _ _ rfl rfl; clear hF
      go_simp
      exact hK _ _ (Grow.refl _) rfl
    refine Plan.det 5 rfl (Grow.refl) ?_
    apply Exists.intro
    refine ⟨fun vs x hR hF K hK => ?_, ?_⟩
    · have f2 := hF 1 _ _ rfl rfl; have f3 := hF 0 _ _ rfl rfl; have hc := HC.out x hR; clear hF
      go_simp
      exact hK _ _ (Grow.refl _) rfl
    refine Plan.det 6 rfl (Grow.refl) ?_
    apply Exists.intro
    refine ⟨fun vs x hR hF K hK => ?_, ?_⟩
    · have f2 := hF 2 _ _ rfl rfl; have f4 := hF 0 _ _ rfl rfl; clear hF
      go_simp
      exact hK _ _ (Grow.refl _) rfl
    refine Plan.det 7 rfl (Grow.refl) ?_
    apply Exists.intro
    refine ⟨fun vs x hR hF K hK => ?_, ?_⟩
    · clear hF
      go_simp
      exact hK _ _ (Grow.refl _) rfl
    refine Plan.det 8 rfl (Grow.refl) ?_
    apply Exists.intro
    refine ⟨fun vs x hR hF K hK => ?_, ?_⟩
    · have f6 := hF 0 _ _ rfl rfl; have hc := HC.out x hR; clear hF
      go_simp
      exact hK _ _ (Grow.refl _) rfl
    refine Plan.det 9 rfl (Grow.refl) ?_
    apply Exists.intro
    refine ⟨fun vs x hR hF K hK => ?_, ?_⟩
    · clear hF
      go_simp
      exact hK _ _ (Grow.refl _) rfl
    refine Plan.det 10 rfl (Grow.refl) ?_
    apply Exists.intro
    refine ⟨fun vs x hR hF K hK => ?_, ?_⟩
    · have f8 := hF 0 _ _ rfl rfl; have hc := HC.out x hR; clear hF
      go_simp
      exact hK _ _ (Grow.refl _) rfl
    refine Plan.det 11 rfl (Grow.refl) ?_
    apply Exists.intro
    refine ⟨fun vs x hR hF K hK => ?_, ?_⟩
    · have f2 := hF 7 _ _ rfl rfl; have f7 := hF 2 _ _ rfl rfl; have f9 := hF 0 _ _ rfl rfl; clear hF
      go_simp
      refine (HS1.out x).mono ?_
      rintro e x1 ⟨rfl, rfl⟩
      exact ⟨_, rfl, hK _ _ (Grow.refl _) rfl⟩
    refine Plan.det 12 rfl (Grow.refl) ?_
    apply Exists.intro
    refine ⟨fun vs x hR hF K hK => ?_, ?_⟩
    · clear hF
      go_simp
      exact hK _ _ (Grow.refl _) rfl
    refine Plan.det 13 rfl (Grow.refl) ?_
    apply Exists.intro
    refine ⟨fun vs x hR hF K hK => ?_, ?_⟩
    · have f11 := hF 0 _ _ rfl rfl; have hc := HC.out x hR; clear hF
      go_simp
      exact hK _ _ (Grow.refl _) rfl
    refine Plan.det 14 rfl (Grow.refl) ?_
    apply Exists.intro
    refine ⟨fun vs x hR hF K hK => ?_, ?_⟩
    · clear hF
      go_simp
      exact hK _ _ (Grow.refl _) rfl
    refine Plan.det 15 rfl (Grow.refl) ?_
    apply Exists.intro
    refine ⟨fun vs x hR hF K hK => ?_, ?_⟩
    · have f13 := hF 0 _ _ rfl rfl; have hc := HC.out x hR; clear hF
      go_simp
      exact hK _ _ (Grow.refl _) rfl
    refine Plan.det 16 rfl (Grow.refl) ?_
    apply Exists.intro
    refine ⟨fun vs x hR hF K hK => ?_, ?_⟩
    · have f10 := hF 4 _ _ rfl rfl; have f12 := hF 2 _ _ rfl rfl; have f14 := hF 0 _ _ rfl rfl; clear hF
      go_simp
      refine (HS2.out x).mono ?_
      rintro e x1 ⟨rfl, rfl⟩
      exact ⟨_, rfl, hK _ _ (Grow.refl _) rfl⟩
    refine Plan.det 17 rfl (Grow.refl) ?_
    apply Exists.intro
    refine ⟨fun vs x hR hF K hK => ?_, ?_⟩
    · clear hF
      go_simp
      exact hK _ _ (Grow.refl _) rfl
    refine Plan.det 18 rfl (Grow.refl) ?_
    apply Exists.intro
    refine ⟨fun vs x hR hF K hK => ?_, ?_⟩
    · have f16 := hF 0 _ _ rfl rfl; have hc := HC.out x hR; clear hF
      go_simp
      exact hK _ _ (Grow.refl _) rfl
    refine Plan.det 19 rfl (Grow.refl) ?_
    apply Exists.intro
    refine ⟨fun vs x hR hF K hK => ?_, ?_⟩
    · have f5 := hF 12 _ _ rfl rfl; have f10 := hF 7 _ _ rfl rfl; have f15 := hF 2 _ _ rfl rfl; have f17 := hF 0 _ _ rfl rfl; clear hF
      go_simp
      exact hK _ _ (Grow.refl _) rfl
    refine Plan.rel 20 rfl (Grow.refl) (fun v x => ∃ b, v = .pointer (some ⟨b, 0, none⟩) ∧ (w.heap.size + 3) ≤ b ∧ Row x b [.bool false, .int .i64 0, .int .i64 0, .int .u64 0, .int .u64 0, .int .u64 0, .int .u64 0] 66) (fun v x y hR ⟨b, h1, h2, h3⟩ => ⟨b, h1, h2, h3.below hR h3.lt⟩) (fun vs x hR hF K hK => ?_) ?_
    · skip
      go_simp
      exact hK _ _ (Grow.alloc _ _) ⟨_, rfl, (by have := Grow.size hR; simp at this; omega), Row.at _ _ _⟩
    refine Plan.nil (fun vs x hR hF => ?_)
    have f0 := hF 19 _ _ rfl; have f1 := hF 18 _ _ rfl; have f2 := hF 17 _ _ rfl; have f3 := hF 16 _ _ rfl; have f4 := hF 15 _ _ rfl; have f5 := hF 14 _ _ rfl; have f6 := hF 13 _ _ rfl; have f7 := hF 12 _ _ rfl; have f8 := hF 11 _ _ rfl; have f9 := hF 10 _ _ rfl; have f10 := hF 9 _ _ rfl; have f11 := hF 8 _ _ rfl; have f12 := hF 7 _ _ rfl; have f13 := hF 6 _ _ rfl; have f14 := hF 5 _ _ rfl; have f15 := hF 4 _ _ rfl; have f16 := hF 3 _ _ rfl; have f17 := hF 2 _ _ rfl; have f18 := hF 1 _ _ rfl; have f19 := hF 0 _ _ rfl
    clear hF
    simp only [f0, f1, f2, f3, f4, f5, f6, f7, f8, f9, f10, f11, f12, f13, f14, f15, f16, f17, f18]
    clear f0 f1 f2 f3 f4 f5 f6 f7 f8 f9 f10 f11 f12 f13 f14 f15 f16 f17 f18
    simp only [List.drop_succ_cons, List.drop_zero]
    obtain ⟨bk, e19, hbk, hrow⟩ := f19
    simp only [e19]
    have q1 := HC.out x hR
    have qb := hrow.c7f
    have hz := hrow.lt
    have HRO := hid hrow
    have HBX := hid (HR.out.2.2.2.drew.trans (hR.mono (by simp; omega)))
    have r2 := HR.out.2.2.1.drew.below hR HR.out.2.2.1.drew.lt
    have HR2 := hid r2
    have q2 := r2.c7f
    have hx3 : w.heap.size + 3 ≤ x.heap.size := by have := Grow.size hR; simp at this; omega
    clear hR HC HR HS1 HS2 HU hrow r2
    go_wp2_with fail
    refine ret_row 4 66 rfl (w.heap.size + 2) rfl (a.cat b).cells (CellsAt.of_row (T := 66) ?_) _ Try.underlying66 rfl (size_facts _ _ _ _ _ _ _) rfl ⟨rfl, ?_⟩
    · rw [show (a.cat b).cells = [.bool false, .int .i64 (lsum a.least b.least), .int .i64 (lsum a.most b.most), .int .u64 a.first.a, .int .u64 a.first.b, .int .u64 a.first.c, .int .u64 a.first.d] by simp [Facts.cat, Facts.cells, HN.out]]
      exact (HR2.out.other7 (by omega) _ _ _ _ _ _ _).set7 _ _ _ _ _ _ _
    · exact below7 (below7 HBX.out (by omega) _ _ _ _ _ _ _) (by omega) _ _ _ _ _ _ _
end Go.Proofs.Ytibfnmkeghkdpaa
