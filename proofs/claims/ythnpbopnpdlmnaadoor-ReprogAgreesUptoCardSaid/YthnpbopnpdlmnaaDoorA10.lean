/- The checker of trees: what one node, and those below it, do to it. -/
import Derived.Test.YthnpbopnpdlmnaaDoorA09
import Derived.Test.YthnpbopnpdlmnaaDoorA05
import Derived.Deep.DeepCutAuto
import Derived.Deep.CutBlock
namespace Go.Proofs.YthnpbopnpdlmnaaDoor
open Go.RowKit
attribute [local go_sem] gives givesUpon

structure Ck where
  shape : Bool
  bounds : Bool
  name : Bool
  nodes : Nat
  groups : Nat
  closed : Int → Bool

def Pay.badRep (p : Pay) : Bool := decide (p.lo < 0) || decide (64 < p.lo) || (decide (p.hi ≠ -1) && (decide (p.hi < p.lo) || decide (64 < p.hi)))
def Ck.pre (c : Ck) (p : Pay) (n : Nat) : Ck :=
  { shape := c.shape || !p.shaped n, bounds := c.bounds || (decide (p.op = 5) && p.badRep) || (decide (p.op = 6) && decide (p.gr ≠ c.groups + 1)), name := c.name || (decide (p.op = 9) && !c.closed p.gr),
    nodes := c.nodes + 1, groups := c.groups + if p.op = 6 then 1 else 0, closed := c.closed }
def Ck.post (c : Ck) (p : Pay) (own : Nat) : Ck := if p.op = 6 ∧ p.gr = own then { c with closed := fun k => decide (k = own) || c.closed k } else c
mutual
def Re.check : Re → Ck → Ck × Nat
  | .mk p xs, c => ((Re.checks xs (c.pre p xs.length) 0).1.post p (c.pre p xs.length).groups, (Re.checks xs (c.pre p xs.length) 0).2 + 1)
def Re.checks : List Re → Ck → Nat → Ck × Nat
  | [], c, l => (c, l)
  | t :: ts, c, l => Re.checks ts (t.check c).1 (max l (t.check c).2)
end

mutual
theorem Re.check_nodes : ∀ (t : Re) (c : Ck), (t.check c).1.nodes = c.nodes + t.size
  | .mk p xs, c => by
    have h := Re.checks_nodes xs (c.pre p xs.length) 0
    rw [Re.check, Re.size_mk]
    have e : ∀ (d : Ck) (p : Pay) (n : Nat), (d.post p n).nodes = d.nodes := by intro d p n; unfold Ck.post; split <;> rfl
    rw [e, h]
    show c.nodes + 1 + _ = _
    omega
theorem Re.checks_nodes : ∀ (xs : List Re) (c : Ck) (l : Nat), (Re.checks xs c l).1.nodes = c.nodes + Re.sizes xs
  | [], c, l => by simp [Re.checks, Re.sizes, Re.counts]
  | t :: ts, c, l => by
    rw [Re.checks, Re.checks_nodes ts, Re.check_nodes t]
    simp only [Re.sizes, Re.counts, Re.size]; omega
end
mutual
theorem Re.check_groups : ∀ (t : Re) (c : Ck), (t.check c).1.groups = c.groups + t.groups
  | .mk p xs, c => by
    have h := Re.checks_groups xs (c.pre p xs.length) 0
    rw [Re.check]
    have e : ∀ (d : Ck) (p : Pay) (n : Nat), (d.post p n).groups = d.groups := by intro d p n; unfold Ck.post; split <;> rfl
    rw [e, h]
    simp only [Ck.pre, Re.groups, Re.count]
    by_cases ho : p.op = 6 <;> simp [ho] <;> omega
theorem Re.checks_groups : ∀ (xs : List Re) (c : Ck) (l : Nat), (Re.checks xs c l).1.groups = c.groups + Re.counts (· == 6) xs
  | [], c, l => by simp [Re.checks, Re.counts]
  | t :: ts, c, l => by
    rw [Re.checks, Re.checks_groups ts, Re.check_groups t]
    simp only [Re.counts, Re.groups]; omega
end
theorem Re.checks_take : ∀ (xs : List Re) (k : Nat) (a : Re) (c : Ck) (l : Nat), xs[k]? = some a →
    Re.checks (xs.take (k + 1)) c l = ((a.check (Re.checks (xs.take k) c l).1).1, max (Re.checks (xs.take k) c l).2 (a.check (Re.checks (xs.take k) c l).1).2)
  | t :: ts, 0, a, c, l, h => by simp at h; subst h; simp [Re.checks]
  | t :: ts, k + 1, a, c, l, h => by
    have := Re.checks_take ts k a (t.check c).1 (max l (t.check c).2) (by simpa using h)
    simp only [List.take_succ_cons, Re.checks]
    exact this
mutual
theorem Re.check_levels : ∀ (t : Re) (c : Ck), (t.check c).2 ≤ t.size
  | .mk p xs, c => by
    have h := Re.checks_levels xs (c.pre p xs.length) 0
    rw [Re.check, Re.size_mk]
    simp only
    omega
theorem Re.checks_levels : ∀ (xs : List Re) (c : Ck) (l : Nat), (Re.checks xs c l).2 ≤ max l (Re.sizes xs)
  | [], c, l => by simp [Re.checks]; omega
  | t :: ts, c, l => by
    have h1 := Re.check_levels t c
    have h2 := Re.checks_levels ts (t.check c).1 (max l (t.check c).2)
    rw [Re.checks]
    simp only [Re.sizes, Re.counts, Re.size] at *; omega
end

def onOff (f : Int → Bool) (k : Int) : Option Value := if f k then some (.bool true) else none
def CkAt (w : World) (R M : Nat) (c : Ck) : Prop := Row w R [.bool c.shape, .bool c.bounds, .bool c.name, .int .i64 c.nodes, .int .i64 c.groups, .slice none 0 0, .map (some M)] 82 ∧ IMap w M (onOff c.closed)

theorem Row.c7 {w : World} {B : Nat} {a b c d e f g : Value} {T : TypeId} (h : Row w B [a, b, c, d, e, f, g] T) :
    (w.cell? ⟨B, 0, none⟩ = some a ∧ w.cell? ⟨B, 1, none⟩ = some b ∧ w.cell? ⟨B, 2, none⟩ = some c ∧ w.cell? ⟨B, 3, none⟩ = some d ∧ w.cell? ⟨B, 4, none⟩ = some e ∧ w.cell? ⟨B, 5, none⟩ = some f ∧ w.cell? ⟨B, 6, none⟩ = some g) ∧
    (w.frozen? ⟨B, 0, none⟩ = false ∧ w.frozen? ⟨B, 1, none⟩ = false ∧ w.frozen? ⟨B, 2, none⟩ = false ∧ w.frozen? ⟨B, 3, none⟩ = false ∧ w.frozen? ⟨B, 4, none⟩ = false ∧ w.frozen? ⟨B, 5, none⟩ = false ∧ w.frozen? ⟨B, 6, none⟩ = false) :=
  ⟨⟨h.cell 0, h.cell 1, h.cell 2, h.cell 3, h.cell 4, h.cell 5, h.cell 6⟩, h.free 0, h.free 1, h.free 2, h.free 3, h.free 4, h.free 5, h.free 6⟩

def At (w : World) (R M : Nat) (c : Ck) (p : Pay) (sl : Value) (wx : World) : Prop :=
  CkAt wx R M c ∧ Row wx w.heap.size (p.cells sl) 28 ∧ But [R, M] w wx

def Ck.pre0 (c : Ck) (p : Pay) (n : Nat) : Ck := { c with shape := c.shape || !p.shaped n, nodes := c.nodes + 1 }

theorem At.bounds0 {w : World} {R M : Nat} {c : Ck} {p : Pay} {sl : Value} {wx : World} (h : At w R M c p sl wx) (hR : R ≠ w.heap.size) (hne : R ≠ M) (b : Bool) : At w R M { c with bounds := b } p sl (wx.setCell ⟨R, 1, none⟩ (.bool b)) :=
  ⟨⟨h.1.1.set 1 (.bool b), h.1.2.other (Ne.symm hne) _ _⟩, h.2.1.other (Ne.symm hR) _ _, h.2.2.setCell (by simp) _⟩
theorem At.named0 {w : World} {R M : Nat} {c : Ck} {p : Pay} {sl : Value} {wx : World} (h : At w R M c p sl wx) (hR : R ≠ w.heap.size) (hne : R ≠ M) (b : Bool) : At w R M { c with name := b } p sl (wx.setCell ⟨R, 2, none⟩ (.bool b)) :=
  ⟨⟨h.1.1.set 2 (.bool b), h.1.2.other (Ne.symm hne) _ _⟩, h.2.1.other (Ne.symm hR) _ _, h.2.2.setCell (by simp) _⟩
theorem At.more {w : World} {R M : Nat} {c : Ck} {p : Pay} {sl : Value} {wx : World} (h : At w R M c p sl wx) (hR : R ≠ w.heap.size) (hne : R ≠ M) : At w R M { c with groups := c.groups + 1 } p sl (wx.setCell ⟨R, 4, none⟩ (.int .i64 ((c.groups : Int) + 1))) :=
  ⟨⟨h.1.1.set 4 (.int .i64 ((c.groups : Int) + 1)), h.1.2.other (Ne.symm hne) _ _⟩, h.2.1.other (Ne.symm hR) _ _, h.2.2.setCell (by simp) _⟩
theorem At.bounds {w : World} {R M : Nat} {c c' : Ck} {p : Pay} {sl : Value} {wx : World} (h : At w R M c p sl wx) (hR : R ≠ w.heap.size) (hne : R ≠ M) (b : Bool) (e : c' = { c with bounds := b }) : At w R M c' p sl (wx.setCell ⟨R, 1, none⟩ (.bool b)) := by
  subst e; exact h.bounds0 hR hne b
theorem At.named {w : World} {R M : Nat} {c c' : Ck} {p : Pay} {sl : Value} {wx : World} (h : At w R M c p sl wx) (hR : R ≠ w.heap.size) (hne : R ≠ M) (b : Bool) (e : c' = { c with name := b }) : At w R M c' p sl (wx.setCell ⟨R, 2, none⟩ (.bool b)) := by
  subst e; exact h.named0 hR hne b
theorem At.later {w : World} {R M : Nat} {c : Ck} {p : Pay} {sl : Value} {wx x : World} (h : At w R M c p sl wx) (hb : Below wx.heap.size wx x) : At w R M c p sl x :=
  ⟨⟨h.1.1.below hb h.1.1.lt, h.1.2.below hb h.1.2.lt⟩, h.2.1.below hb h.2.1.lt, h.2.2.trans (But.of_below hb)⟩

set_option maxRecDepth 100000 in
set_option maxHeartbeats 4000000 in
theorem node_any (R M : Nat) (wb : World) (hR : wb.heap.size ≤ R) (hM : wb.heap.size ≤ M) (hne : R ≠ M) (t : Re) : ∀ (w : World) (cs : List Value) (c : Ck), t.In wb cs → Below wb.heap.size wb w → CkAt w R M c → c.nodes + t.size ≤ 1048577 → c.groups ≤ c.nodes →
    Calls Tryd.prog 28 #[.pointer (some ⟨R, 0, none⟩), .agg cs.toArray] w fun e w' =>
      e = .returned (.int .i64 ((t.check c).2 : Nat)) ∧ But [R, M] w w' ∧ CkAt w' R M (t.check c).1 := by
  induction t using Re.ind with
  | h p xs ih =>
    intro w cs c hIn hbw hck hsz hgr
    rw [Re.In] at hIn
    obtain ⟨ad, cap, rfl, hwf, hlc, hcm, hnil, hall⟩ := hIn
    rw [Re.size_mk] at hsz
    have hlen := Re.sizes_len xs
    have hsw := hbw.size
    have HBW := hid hbw
    have HIH := hid ih
    have HAL := hid hall
    have HNE := hid hne
    have HCK := hid hck
    have HWF := hid hwf
    have q1 := hck.1.c7
    have hRl := hck.1.lt
    have hMl := hck.2.lt
    clear ih hall hbw hne hck hwf
    simp only [Pay.cells]
    go_enter Tryd.func28, Tryd.ntmps28
    go_upto_region 2 with fail
    go_cut [] (fun wx => At w R M (c.pre0 p xs.length) p (.slice ad xs.length cap) wx)
    case first =>
      by_cases hs : c.shape = true
      · rw [hs] at q1
        go_wp2_with fail
        go_meet
        refine ⟨⟨?_, (HCK.out.2.of_block ?_).alloc _⟩, Row.new (cs := p.cells _) (by simp), ?_⟩
        · have := ((HCK.out.1.set 3 (.int .i64 (c.nodes + 1))).set 0 (.bool true)).alloc (.cells #[.int .i64 p.op, .int .u64 p.set.a, .int .u64 p.set.b, .int .u64 p.set.c, .int .u64 p.set.d, .int .i64 p.lo, .int .i64 p.hi, .int .i64 p.gr, .slice ad xs.length cap] 28)
          simpa [Ck.pre0, hs] using this
        · rw [Below.heap_setCell _ _ _ _ (by simpa using Ne.symm HNE.out), Below.heap_setCell _ _ _ _ (by simpa using Ne.symm HNE.out)]
        · exact (((But.refl _ w).setCell (by simp) _).setCell (by simp) _).alloc _
      · have hs' : c.shape = false := by simpa using hs
        rw [hs'] at q1
        clear hs
        go_wp2_with fail
        refine (shaped_any p ad xs.length cap _ (by omega) HWF.out.op).mono ?_
        rintro e w2 ⟨rfl, hb2⟩
        have hz2 := hb2.size
        have r1 := ((HCK.out.1.set 3 (.int .i64 ((c.nodes : Int) + 1))).alloc (.cells #[.int .i64 p.op, .int .u64 p.set.a, .int .u64 p.set.b, .int .u64 p.set.c, .int .u64 p.set.d, .int .i64 p.lo, .int .i64 p.hi, .int .i64 p.gr, .slice ad xs.length cap] 28)).below hb2 (by simp [World.setCell]; omega)
        have r2 := (IMap.alloc (HCK.out.2.of_block (Below.heap_setCell w ⟨R, 3, none⟩ (.int .i64 ((c.nodes : Int) + 1)) M (by simpa using Ne.symm HNE.out))) (.cells #[.int .i64 p.op, .int .u64 p.set.a, .int .u64 p.set.b, .int .u64 p.set.c, .int .u64 p.set.d, .int .i64 p.lo, .int .i64 p.hi, .int .i64 p.gr, .slice ad xs.length cap] 28)).below hb2 (by simp [World.setCell]; omega)
        have r3 := (Row.new (w := w.setCell ⟨R, 3, none⟩ (.int .i64 ((c.nodes : Int) + 1))) (B := w.heap.size) (cs := p.cells (.slice ad xs.length cap)) (T := 28) (by simp [World.setCell])).below hb2 (by simp [World.setCell])
        have r4 := (((But.refl [R, M] w).setCell (p := ⟨R, 3, none⟩) (by simp) (.int .i64 ((c.nodes : Int) + 1))).alloc (.cells #[.int .i64 p.op, .int .u64 p.set.a, .int .u64 p.set.b, .int .u64 p.set.c, .int .u64 p.set.d, .int .i64 p.lo, .int .i64 p.hi, .int .i64 p.gr, .slice ad xs.length cap] 28)).trans (But.of_below hb2)
        have q2 := Row.c7 r1
        have hRl2 := r1.lt
        have H1 := hid r1
        have H2 := hid r2
        have H3 := hid r3
        have H4 := hid r4
        clear hb2 r1 r2 r3 r4 q1 hz2
        go_wp2_with fail
        go_meet
        refine ⟨⟨?_, H2.out.of_block (Below.heap_setCell _ _ _ _ (by simpa using Ne.symm HNE.out))⟩, H3.out.other (by simp; omega) _ _, H4.out.setCell (by simp) _⟩
        have := H1.out.set 0 (.bool (!p.shaped xs.length))
        simpa [Ck.pre0, hs'] using this
    case rest =>
      obtain ⟨hck, hbx, hbut⟩ := hcut
      have q2 := hck.1.c7
      have q3 := hbx.c9
      have hRl2 := hck.1.lt
      have hBl2 := hbx.lt
      have hs2 := hbut.size
      have HC2 := hid hck
      have HB2 := hid hbx
      have HU2 := hid hbut
      clear hck hbx hbut q1 HCK
      go_upto_block 0 with fail
      go_cut [] (fun wx => At w R M (c.pre p xs.length) p (.slice ad xs.length cap) wx)
      case first =>
        have HA : Hid (At w R M (c.pre0 p xs.length) p (.slice ad xs.length cap) wc) := ⟨HC2.out, HB2.out, HU2.out⟩
        have hRw : R ≠ w.heap.size := by omega
        have HRW := hid hRw
        clear hRw
        by_cases o5 : p.op = 5
        · skip
          have he : ∀ b : Bool, b = (c.bounds || p.badRep) → c.pre p xs.length = { c.pre0 p xs.length with bounds := b } := by intro b hb; simp [Ck.pre, Ck.pre0, o5, hb]
          have HE := hid he
          have d5 : (p.op == 5) = true := by simpa using o5
          clear o5 he
          have hb0 : (c.pre0 p xs.length).bounds = c.bounds := rfl
          rw [hb0] at q2
          have HD : Hid (p.badRep = _) := hid (Pay.badRep.eq_1 p)
          clear HD
          have HHI : (p.hi != -1) = true ∨ (p.hi != -1) = false := by cases (p.hi != -1) <;> simp
          rcases HHI with dh | dh
          all_goals
            have HDH := hid dh
            by_cases hb : c.bounds = true
            · have HBB := hid hb
              rw [hb] at q2
              clear hb
              go_wp2_with fail
              all_goals
                go_meet
                refine At.bounds HA.out HRW.out HNE.out _ (HE.out _ ?_)
                rw [HBB.out]; rfl
            · have hb' : c.bounds = false := by simpa using hb
              have HBB := hid hb'
              rw [hb'] at q2
              clear hb hb'
              go_wp2_with fail
              all_goals
                go_meet
                refine At.bounds HA.out HRW.out HNE.out _ (HE.out _ ?_)
                have hh := HDH.out
                simp at hh
                rw [HBB.out, Bool.eq_iff_iff]
                simp [Pay.badRep, hh]
                try omega
        by_cases o6 : p.op = 6
        · skip
          have he : ∀ b : Bool, b = (c.bounds || decide (p.gr ≠ c.groups + 1)) → c.pre p xs.length = { c.pre0 p xs.length with groups := c.groups + 1, bounds := b } := by intro b hb; simp [Ck.pre, Ck.pre0, o6, hb]
          have HE := hid he
          have d5 : (p.op == 5) = false := by simpa using o5
          have d6 : (p.op == 6) = true := by simpa using o6
          clear o5 o6 he
          have hb0 : (c.pre0 p xs.length).bounds = c.bounds := rfl
          have hg0 : (c.pre0 p xs.length).groups = c.groups := rfl
          rw [hb0, hg0] at q2
          have HA1 : Hid (At w R M { c.pre0 p xs.length with groups := c.groups + 1 } p (.slice ad xs.length cap) (wc.setCell ⟨R, 4, none⟩ (.int .i64 ((c.groups : Int) + 1)))) := HA.out.more HRW.out HNE.out
          have HC : Hid (∀ x, Below wc.heap.size (wc.setCell ⟨R, 4, none⟩ (.int .i64 ((c.groups : Int) + 1))).drew x → (x.cell? ⟨R, 1, none⟩ = some (.bool c.bounds) ∧ x.cell? ⟨R, 4, none⟩ = some (.int .i64 ((c.groups : Int) + 1))) ∧ x.cell? ⟨w.heap.size, 7, none⟩ = some (.int .i64 p.gr)) := fun x hx =>
            ⟨⟨(HA1.out.1.1.drew.below hx hRl2).cell 1, (HA1.out.1.1.drew.below hx hRl2).cell 4⟩, (HA1.out.2.1.drew.below hx hBl2).cell 7⟩
          rcases (show c.bounds = true ∨ c.bounds = false by cases c.bounds <;> simp) with hb | hb
          · have HBB := hid hb
            rw [hb] at q2 HC
            clear hb
            go_wp2_with fail
            refine wp_region_inv 16 (Below wc.heap.size) (by kernel_rfl) (by kernel_rfl) (Below.refl _) (fun _ _ _ => Below.trans) ?_
            simp only [fill, dstOf, Act.put, List.take_succ_cons, List.take_zero, List.getElem?_toArray, List.getElem?_cons_zero, List.getElem?_cons_succ, Option.bind_some, List.setIfInBounds_toArray, List.set_cons_zero, List.set_cons_succ]
            refine Plan.det 1 rfl (Below.refl _) ?_
            apply Exists.intro
            refine ⟨fun vs x hR hF K hK => ?_, ?_⟩
            · clear hF
              go_simp
              exact hK _ _ (Below.refl _ _) rfl
            refine Plan.det 2 rfl (Below.refl _) ?_
            apply Exists.intro
            refine ⟨fun vs x hR hF K hK => ?_, ?_⟩
            · clear hF
              go_simp
              exact hK _ _ (Below.refl _ _) rfl
            refine Plan.det 3 rfl (Below.refl _) ?_
            apply Exists.intro
            refine ⟨fun vs x hR hF K hK => ?_, ?_⟩
            · have f1 := hF 0 _ _ rfl rfl; clear hF
              go_simp
              exact hK _ _ (Below.refl _ _) rfl
            refine Plan.det 4 rfl (Below.refl _) ?_
            apply Exists.intro
            refine ⟨fun vs x hR hF K hK => ?_, ?_⟩
            · have f2 := hF 0 _ _ rfl rfl; clear hF
              go_simp
              exact hK _ _ (Below.refl _ _) rfl
            refine Plan.det 5 rfl (Below.refl _) ?_
            apply Exists.intro
            refine ⟨fun vs x hR hF K hK => ?_, ?_⟩
            · have f3 := hF 0 _ _ rfl rfl; have hc := HC.out x hR; clear hF
              go_simp
              exact hK _ _ (Below.refl _ _) rfl
            refine Plan.det 6 rfl (Below.refl _) ?_
            apply Exists.intro
            refine ⟨fun vs x hR hF K hK => ?_, ?_⟩
            · have f4 := hF 0 _ _ rfl rfl; clear hF
              go_simp
              exact hK _ _ (Below.refl _ _) rfl
            refine Plan.det 7 rfl (Below.refl _) ?_
            apply Exists.intro
            refine ⟨fun vs x hR hF K hK => ?_, ?_⟩
            · have f5 := hF 0 _ _ rfl rfl; clear hF
              go_simp
              exact hK _ _ (Below.refl _ _) rfl
            refine Plan.det 8 rfl (Below.refl _) ?_
            apply Exists.intro
            refine ⟨fun vs x hR hF K hK => ?_, ?_⟩
            · have f5 := hF 1 _ _ rfl rfl; have f6 := hF 0 _ _ rfl rfl; have hc := HC.out x hR; clear hF
              go_simp
              exact hK _ _ (Below.refl _ _) rfl
            refine Plan.det 9 rfl (Below.refl _) ?_
            apply Exists.intro
            refine ⟨fun vs x hR hF K hK => ?_, ?_⟩
            · have f5 := hF 2 _ _ rfl rfl; clear hF
              go_simp
              exact hK _ _ (Below.refl _ _) rfl
            refine Plan.det 10 rfl (Below.refl _) ?_
            apply Exists.intro
            refine ⟨fun vs x hR hF K hK => ?_, ?_⟩
            · have f5 := hF 3 _ _ rfl rfl; have f8 := hF 0 _ _ rfl rfl; clear hF
              go_simp
              exact hK _ _ (Below.refl _ _) rfl
            refine Plan.det 11 rfl (Below.refl _) ?_
            apply Exists.intro
            refine ⟨fun vs x hR hF K hK => ?_, ?_⟩
            · have f5 := hF 4 _ _ rfl rfl; have f9 := hF 0 _ _ rfl rfl; clear hF
              go_simp
              exact hK _ _ (Below.refl _ _) rfl
            refine Plan.det 12 rfl (Below.refl _) ?_
            apply Exists.intro
            refine ⟨fun vs x hR hF K hK => ?_, ?_⟩
            · have f5 := hF 5 _ _ rfl rfl; have f10 := hF 0 _ _ rfl rfl; have hc := HC.out x hR; clear hF
              go_simp
              exact hK _ _ (Below.refl _ _) rfl
            refine Plan.det 13 rfl (Below.refl _) ?_
            apply Exists.intro
            refine ⟨fun vs x hR hF K hK => ?_, ?_⟩
            · have f5 := hF 6 _ _ rfl rfl; have f7 := hF 4 _ _ rfl rfl; have f11 := hF 0 _ _ rfl rfl; clear hF
              go_simp
              exact hK _ _ (Below.refl _ _) rfl
            refine Plan.det 14 rfl (Below.refl _) ?_
            apply Exists.intro
            refine ⟨fun vs x hR hF K hK => ?_, ?_⟩
            · have f5 := hF 7 _ _ rfl rfl; have f12 := hF 0 _ _ rfl rfl; clear hF
              go_simp
              exact hK _ _ (Below.refl _ _) rfl
            refine Plan.det 15 rfl (Below.refl _) ?_
            apply Exists.intro
            refine ⟨fun vs x hR hF K hK => ?_, ?_⟩
            · have f0 := hF 13 _ _ rfl rfl; have f1 := hF 12 _ _ rfl rfl; have f2 := hF 11 _ _ rfl rfl; have f3 := hF 10 _ _ rfl rfl; have f4 := hF 9 _ _ rfl rfl; have f5 := hF 8 _ _ rfl rfl; have f6 := hF 7 _ _ rfl rfl; have f7 := hF 6 _ _ rfl rfl; have f8 := hF 5 _ _ rfl rfl; have f9 := hF 4 _ _ rfl rfl; have f10 := hF 3 _ _ rfl rfl; have f11 := hF 2 _ _ rfl rfl; have f12 := hF 1 _ _ rfl rfl; have f13 := hF 0 _ _ rfl rfl; clear hF
              go_simp
              exact hK _ _ (Below.refl _ _) rfl
            refine Plan.det 16 rfl (Below.refl _) ?_
            apply Exists.intro
            refine ⟨fun vs x hR hF K hK => ?_, ?_⟩
            · have f0 := hF 14 _ _ rfl rfl; have f1 := hF 13 _ _ rfl rfl; have f2 := hF 12 _ _ rfl rfl; have f3 := hF 11 _ _ rfl rfl; have f4 := hF 10 _ _ rfl rfl; have f5 := hF 9 _ _ rfl rfl; have f6 := hF 8 _ _ rfl rfl; have f7 := hF 7 _ _ rfl rfl; have f8 := hF 6 _ _ rfl rfl; have f9 := hF 5 _ _ rfl rfl; have f10 := hF 4 _ _ rfl rfl; have f11 := hF 3 _ _ rfl rfl; have f12 := hF 2 _ _ rfl rfl; have f13 := hF 1 _ _ rfl rfl; have f14 := hF 0 _ _ rfl rfl; clear hF
              go_simp
              exact hK _ _ (Below.refl _ _) rfl
            refine Plan.nil (fun vs x hR hF => ?_)
            have f0 := hF 15 _ _ rfl; have f1 := hF 14 _ _ rfl; have f2 := hF 13 _ _ rfl; have f3 := hF 12 _ _ rfl; have f4 := hF 11 _ _ rfl; have f5 := hF 10 _ _ rfl; have f6 := hF 9 _ _ rfl; have f7 := hF 8 _ _ rfl; have f8 := hF 7 _ _ rfl; have f9 := hF 6 _ _ rfl; have f10 := hF 5 _ _ rfl; have f11 := hF 4 _ _ rfl; have f12 := hF 3 _ _ rfl; have f13 := hF 2 _ _ rfl; have f14 := hF 1 _ _ rfl; have f15 := hF 0 _ _ rfl
            clear hF
            simp only [f0, f1, f2, f3, f4, f5, f6, f7, f8, f9, f10, f11, f12, f13, f14, f15]
            clear f0 f1 f2 f3 f4 f5 f6 f7 f8 f9 f10 f11 f12 f13 f14 f15
            simp only [List.drop_succ_cons, List.drop_zero]
            have HA2 : Hid (At w R M { c.pre0 p xs.length with groups := c.groups + 1 } p (.slice ad xs.length cap) x) := At.later (wx := (wc.setCell ⟨R, 4, none⟩ (.int .i64 ((c.groups : Int) + 1))).drew) ⟨⟨HA1.out.1.1.drew, HA1.out.1.2.drew⟩, HA1.out.2.1.drew, HA1.out.2.2.drew⟩ (by simpa [World.setCell] using hR)
            have q4 := HA2.out.1.1.c7
            have hz := HA2.out.1.1.lt
            clear hR HC q2
            go_wp2_with fail
            go_meet
            refine At.bounds HA2.out HRW.out HNE.out _ (HE.out _ ?_)
            rw [HBB.out, Bool.eq_iff_iff]
            simp
          · have HBB := hid hb
            rw [hb] at q2 HC
            clear hb
            go_wp2_with fail
            refine wp_region_inv 16 (Below wc.heap.size) (by kernel_rfl) (by kernel_rfl) (Below.refl _) (fun _ _ _ => Below.trans) ?_
            simp only [fill, dstOf, Act.put, List.take_succ_cons, List.take_zero, List.getElem?_toArray, List.getElem?_cons_zero, List.getElem?_cons_succ, Option.bind_some, List.setIfInBounds_toArray, List.set_cons_zero, List.set_cons_succ]
            refine Plan.det 1 rfl (Below.refl _) ?_
            apply Exists.intro
            refine ⟨fun vs x hR hF K hK => ?_, ?_⟩
            · clear hF
              go_simp
              exact hK _ _ (Below.refl _ _) rfl
            refine Plan.det 2 rfl (Below.refl _) ?_
            apply Exists.intro
            refine ⟨fun vs x hR hF K hK => ?_, ?_⟩
            · clear hF
              go_simp
              exact hK _ _ (Below.refl _ _) rfl
            refine Plan.det 3 rfl (Below.refl _) ?_
            apply Exists.intro
            refine ⟨fun vs x hR hF K hK => ?_, ?_⟩
            · have f1 := hF 0 _ _ rfl rfl; clear hF
              go_simp
              exact hK _ _ (Below.refl _ _) rfl
            refine Plan.det 4 rfl (Below.refl _) ?_
            apply Exists.intro
            refine ⟨fun vs x hR hF K hK => ?_, ?_⟩
            · have f2 := hF 0 _ _ rfl rfl; clear hF
              go_simp
              exact hK _ _ (Below.refl _ _) rfl
            refine Plan.det 5 rfl (Below.refl _) ?_
            apply Exists.intro
            refine ⟨fun vs x hR hF K hK => ?_, ?_⟩
            · have f3 := hF 0 _ _ rfl rfl; have hc := HC.out x hR; clear hF
              go_simp
              exact hK _ _ (Below.refl _ _) rfl
            refine Plan.det 6 rfl (Below.refl _) ?_
            apply Exists.intro
            refine ⟨fun vs x hR hF K hK => ?_, ?_⟩
            · have f4 := hF 0 _ _ rfl rfl; clear hF
              go_simp
              exact hK _ _ (Below.refl _ _) rfl
            refine Plan.det 7 rfl (Below.refl _) ?_
            apply Exists.intro
            refine ⟨fun vs x hR hF K hK => ?_, ?_⟩
            · have f5 := hF 0 _ _ rfl rfl; clear hF
              go_simp
              exact hK _ _ (Below.refl _ _) rfl
            refine Plan.det 8 rfl (Below.refl _) ?_
            apply Exists.intro
            refine ⟨fun vs x hR hF K hK => ?_, ?_⟩
            · have f5 := hF 1 _ _ rfl rfl; have f6 := hF 0 _ _ rfl rfl; have hc := HC.out x hR; clear hF
              go_simp
              exact hK _ _ (Below.refl _ _) rfl
            refine Plan.det 9 rfl (Below.refl _) ?_
            apply Exists.intro
            refine ⟨fun vs x hR hF K hK => ?_, ?_⟩
            · have f5 := hF 2 _ _ rfl rfl; clear hF
              go_simp
              exact hK _ _ (Below.refl _ _) rfl
            refine Plan.det 10 rfl (Below.refl _) ?_
            apply Exists.intro
            refine ⟨fun vs x hR hF K hK => ?_, ?_⟩
            · have f5 := hF 3 _ _ rfl rfl; have f8 := hF 0 _ _ rfl rfl; clear hF
              go_simp
              exact hK _ _ (Below.refl _ _) rfl
            refine Plan.det 11 rfl (Below.refl _) ?_
            apply Exists.intro
            refine ⟨fun vs x hR hF K hK => ?_, ?_⟩
            · have f5 := hF 4 _ _ rfl rfl; have f9 := hF 0 _ _ rfl rfl; clear hF
              go_simp
              exact hK _ _ (Below.refl _ _) rfl
            refine Plan.det 12 rfl (Below.refl _) ?_
            apply Exists.intro
            refine ⟨fun vs x hR hF K hK => ?_, ?_⟩
            · have f5 := hF 5 _ _ rfl rfl; have f10 := hF 0 _ _ rfl rfl; have hc := HC.out x hR; clear hF
              go_simp
              exact hK _ _ (Below.refl _ _) rfl
            refine Plan.det 13 rfl (Below.refl _) ?_
            apply Exists.intro
            refine ⟨fun vs x hR hF K hK => ?_, ?_⟩
            · have f5 := hF 6 _ _ rfl rfl; have f7 := hF 4 _ _ rfl rfl; have f11 := hF 0 _ _ rfl rfl; clear hF
              go_simp
              exact hK _ _ (Below.refl _ _) rfl
            refine Plan.det 14 rfl (Below.refl _) ?_
            apply Exists.intro
            refine ⟨fun vs x hR hF K hK => ?_, ?_⟩
            · have f5 := hF 7 _ _ rfl rfl; have f12 := hF 0 _ _ rfl rfl; clear hF
              go_simp
              exact hK _ _ (Below.refl _ _) rfl
            refine Plan.det 15 rfl (Below.refl _) ?_
            apply Exists.intro
            refine ⟨fun vs x hR hF K hK => ?_, ?_⟩
            · have f0 := hF 13 _ _ rfl rfl; have f1 := hF 12 _ _ rfl rfl; have f2 := hF 11 _ _ rfl rfl; have f3 := hF 10 _ _ rfl rfl; have f4 := hF 9 _ _ rfl rfl; have f5 := hF 8 _ _ rfl rfl; have f6 := hF 7 _ _ rfl rfl; have f7 := hF 6 _ _ rfl rfl; have f8 := hF 5 _ _ rfl rfl; have f9 := hF 4 _ _ rfl rfl; have f10 := hF 3 _ _ rfl rfl; have f11 := hF 2 _ _ rfl rfl; have f12 := hF 1 _ _ rfl rfl; have f13 := hF 0 _ _ rfl rfl; clear hF
              go_simp
              exact hK _ _ (Below.refl _ _) rfl
            refine Plan.det 16 rfl (Below.refl _) ?_
            apply Exists.intro
            refine ⟨fun vs x hR hF K hK => ?_, ?_⟩
            · have f0 := hF 14 _ _ rfl rfl; have f1 := hF 13 _ _ rfl rfl; have f2 := hF 12 _ _ rfl rfl; have f3 := hF 11 _ _ rfl rfl; have f4 := hF 10 _ _ rfl rfl; have f5 := hF 9 _ _ rfl rfl; have f6 := hF 8 _ _ rfl rfl; have f7 := hF 7 _ _ rfl rfl; have f8 := hF 6 _ _ rfl rfl; have f9 := hF 5 _ _ rfl rfl; have f10 := hF 4 _ _ rfl rfl; have f11 := hF 3 _ _ rfl rfl; have f12 := hF 2 _ _ rfl rfl; have f13 := hF 1 _ _ rfl rfl; have f14 := hF 0 _ _ rfl rfl; clear hF
              go_simp
              exact hK _ _ (Below.refl _ _) rfl
            refine Plan.nil (fun vs x hR hF => ?_)
            have f0 := hF 15 _ _ rfl; have f1 := hF 14 _ _ rfl; have f2 := hF 13 _ _ rfl; have f3 := hF 12 _ _ rfl; have f4 := hF 11 _ _ rfl; have f5 := hF 10 _ _ rfl; have f6 := hF 9 _ _ rfl; have f7 := hF 8 _ _ rfl; have f8 := hF 7 _ _ rfl; have f9 := hF 6 _ _ rfl; have f10 := hF 5 _ _ rfl; have f11 := hF 4 _ _ rfl; have f12 := hF 3 _ _ rfl; have f13 := hF 2 _ _ rfl; have f14 := hF 1 _ _ rfl; have f15 := hF 0 _ _ rfl
            clear hF
            simp only [f0, f1, f2, f3, f4, f5, f6, f7, f8, f9, f10, f11, f12, f13, f14, f15]
            clear f0 f1 f2 f3 f4 f5 f6 f7 f8 f9 f10 f11 f12 f13 f14 f15
            simp only [List.drop_succ_cons, List.drop_zero]
            have HA2 : Hid (At w R M { c.pre0 p xs.length with groups := c.groups + 1 } p (.slice ad xs.length cap) x) := At.later (wx := (wc.setCell ⟨R, 4, none⟩ (.int .i64 ((c.groups : Int) + 1))).drew) ⟨⟨HA1.out.1.1.drew, HA1.out.1.2.drew⟩, HA1.out.2.1.drew, HA1.out.2.2.drew⟩ (by simpa [World.setCell] using hR)
            have q4 := HA2.out.1.1.c7
            have hz := HA2.out.1.1.lt
            clear hR HC q2
            go_wp2_with fail
            go_meet
            refine At.bounds HA2.out HRW.out HNE.out _ (HE.out _ ?_)
            rw [HBB.out, Bool.eq_iff_iff]
            simp
        by_cases o9 : p.op = 9
        · skip
          have he : ∀ b : Bool, b = (c.name || !c.closed p.gr) → c.pre p xs.length = { c.pre0 p xs.length with name := b } := by intro b hb; simp [Ck.pre, Ck.pre0, o9, hb]
          have HE := hid he
          have d5 : (p.op == 5) = false := by simpa using o5
          have d6 : (p.op == 6) = false := by simpa using o6
          have d9 : (p.op == 9) = true := by simpa using o9
          clear o5 o6 o9 he
          have hb0 : (c.pre0 p xs.length).name = c.name := rfl
          rw [hb0] at q2
          have HC : Hid (∀ x, Below wc.heap.size wc.drew x → (x.cell? ⟨R, 2, none⟩ = some (.bool c.name) ∧ x.cell? ⟨R, 6, none⟩ = some (.map (some M))) ∧ x.cell? ⟨w.heap.size, 7, none⟩ = some (.int .i64 p.gr)) := fun x hx =>
            ⟨⟨(HA.out.1.1.drew.below hx hRl2).cell 2, (HA.out.1.1.drew.below hx hRl2).cell 6⟩, (HA.out.2.1.drew.below hx hBl2).cell 7⟩
          have HLK : Hid (∀ x, Below wc.heap.size wc.drew x → (Instr.lookup 80 (.map (some M)) (.int .i64 p.gr) false).run Tryd.prog x = .ok (.bool (c.closed p.gr)) x) := fun x hx => by
            have := (HA.out.1.2.drew.below hx (by omega)).run_lookup 80 3 4 Tryd.underlying80 Tryd.underlying3 (.bool false) (by kernel_rfl) p.gr
            rw [this]
            have e2 : (c.pre0 p xs.length).closed = c.closed := rfl
            rw [e2]
            unfold onOff
            cases c.closed p.gr <;> rfl
          rcases (show c.name = true ∨ c.name = false by cases c.name <;> simp) with hb | hb
          · have HBB := hid hb
            rw [hb] at q2 HC
            clear hb
            go_wp2_with fail
            refine wp_region_inv 17 (Below wc.heap.size) (by kernel_rfl) (by kernel_rfl) (Below.refl _) (fun _ _ _ => Below.trans) ?_
            simp only [fill, dstOf, Act.put, List.take_succ_cons, List.take_zero, List.getElem?_toArray, List.getElem?_cons_zero, List.getElem?_cons_succ, Option.bind_some, List.setIfInBounds_toArray, List.set_cons_zero, List.set_cons_succ]
            refine Plan.det 1 rfl (Below.refl _) ?_
            apply Exists.intro
            refine ⟨fun vs x hR hF K hK => ?_, ?_⟩
            · clear hF
              go_simp
              exact hK _ _ (Below.refl _ _) rfl
            refine Plan.det 2 rfl (Below.refl _) ?_
            apply Exists.intro
            refine ⟨fun vs x hR hF K hK => ?_, ?_⟩
            · clear hF
              go_simp
              exact hK _ _ (Below.refl _ _) rfl
            refine Plan.det 3 rfl (Below.refl _) ?_
            apply Exists.intro
            refine ⟨fun vs x hR hF K hK => ?_, ?_⟩
            · have f1 := hF 0 _ _ rfl rfl; clear hF
              go_simp
              exact hK _ _ (Below.refl _ _) rfl
            refine Plan.det 4 rfl (Below.refl _) ?_
            apply Exists.intro
            refine ⟨fun vs x hR hF K hK => ?_, ?_⟩
            · have f2 := hF 0 _ _ rfl rfl; clear hF
              go_simp
              exact hK _ _ (Below.refl _ _) rfl
            refine Plan.det 5 rfl (Below.refl _) ?_
            apply Exists.intro
            refine ⟨fun vs x hR hF K hK => ?_, ?_⟩
            · have f3 := hF 0 _ _ rfl rfl; have hc := HC.out x hR; clear hF
              go_simp
              exact hK _ _ (Below.refl _ _) rfl
            refine Plan.det 6 rfl (Below.refl _) ?_
            apply Exists.intro
            refine ⟨fun vs x hR hF K hK => ?_, ?_⟩
            · have f4 := hF 0 _ _ rfl rfl; clear hF
              go_simp
              exact hK _ _ (Below.refl _ _) rfl
            refine Plan.det 7 rfl (Below.refl _) ?_
            apply Exists.intro
            refine ⟨fun vs x hR hF K hK => ?_, ?_⟩
            · have f5 := hF 0 _ _ rfl rfl; clear hF
              go_simp
              exact hK _ _ (Below.refl _ _) rfl
            refine Plan.det 8 rfl (Below.refl _) ?_
            apply Exists.intro
            refine ⟨fun vs x hR hF K hK => ?_, ?_⟩
            · have f5 := hF 1 _ _ rfl rfl; have f6 := hF 0 _ _ rfl rfl; clear hF
              go_simp
              exact hK _ _ (Below.refl _ _) rfl
            refine Plan.det 9 rfl (Below.refl _) ?_
            apply Exists.intro
            refine ⟨fun vs x hR hF K hK => ?_, ?_⟩
            · have f5 := hF 2 _ _ rfl rfl; have f7 := hF 0 _ _ rfl rfl; clear hF
              go_simp
              exact hK _ _ (Below.refl _ _) rfl
            refine Plan.det 10 rfl (Below.refl _) ?_
            apply Exists.intro
            refine ⟨fun vs x hR hF K hK => ?_, ?_⟩
            · have f5 := hF 3 _ _ rfl rfl; have f8 := hF 0 _ _ rfl rfl; have hc := HC.out x hR; clear hF
              go_simp
              exact hK _ _ (Below.refl _ _) rfl
            refine Plan.det 11 rfl (Below.refl _) ?_
            apply Exists.intro
            refine ⟨fun vs x hR hF K hK => ?_, ?_⟩
            · have f5 := hF 4 _ _ rfl rfl; clear hF
              go_simp
              exact hK _ _ (Below.refl _ _) rfl
            refine Plan.det 12 rfl (Below.refl _) ?_
            apply Exists.intro
            refine ⟨fun vs x hR hF K hK => ?_, ?_⟩
            · have f5 := hF 5 _ _ rfl rfl; have f10 := hF 0 _ _ rfl rfl; have hc := HC.out x hR; clear hF
              go_simp
              exact hK _ _ (Below.refl _ _) rfl
            refine Plan.det 13 rfl (Below.refl _) ?_
            apply Exists.intro
            refine ⟨fun vs x hR hF K hK => ?_, ?_⟩
            · have f5 := hF 6 _ _ rfl rfl; have f9 := hF 2 _ _ rfl rfl; have f11 := hF 0 _ _ rfl rfl; clear hF
              have hl := HLK.out x hR
              go_simp
              exact hK _ _ (Below.refl _ _) rfl
            refine Plan.det 14 rfl (Below.refl _) ?_
            apply Exists.intro
            refine ⟨fun vs x hR hF K hK => ?_, ?_⟩
            · have f5 := hF 7 _ _ rfl rfl; have f12 := hF 0 _ _ rfl rfl; clear hF
              go_simp
              exact hK _ _ (Below.refl _ _) rfl
            refine Plan.det 15 rfl (Below.refl _) ?_
            apply Exists.intro
            refine ⟨fun vs x hR hF K hK => ?_, ?_⟩
            · have f5 := hF 8 _ _ rfl rfl; have f13 := hF 0 _ _ rfl rfl; clear hF
              go_simp
              exact hK _ _ (Below.refl _ _) rfl
            refine Plan.det 16 rfl (Below.refl _) ?_
            apply Exists.intro
            refine ⟨fun vs x hR hF K hK => ?_, ?_⟩
            · have f0 := hF 14 _ _ rfl rfl; have f1 := hF 13 _ _ rfl rfl; have f2 := hF 12 _ _ rfl rfl; have f3 := hF 11 _ _ rfl rfl; have f4 := hF 10 _ _ rfl rfl; have f5 := hF 9 _ _ rfl rfl; have f6 := hF 8 _ _ rfl rfl; have f7 := hF 7 _ _ rfl rfl; have f8 := hF 6 _ _ rfl rfl; have f9 := hF 5 _ _ rfl rfl; have f10 := hF 4 _ _ rfl rfl; have f11 := hF 3 _ _ rfl rfl; have f12 := hF 2 _ _ rfl rfl; have f13 := hF 1 _ _ rfl rfl; have f14 := hF 0 _ _ rfl rfl; clear hF
              go_simp
              exact hK _ _ (Below.refl _ _) rfl
            refine Plan.det 17 rfl (Below.refl _) ?_
            apply Exists.intro
            refine ⟨fun vs x hR hF K hK => ?_, ?_⟩
            · have f0 := hF 15 _ _ rfl rfl; have f1 := hF 14 _ _ rfl rfl; have f2 := hF 13 _ _ rfl rfl; have f3 := hF 12 _ _ rfl rfl; have f4 := hF 11 _ _ rfl rfl; have f5 := hF 10 _ _ rfl rfl; have f6 := hF 9 _ _ rfl rfl; have f7 := hF 8 _ _ rfl rfl; have f8 := hF 7 _ _ rfl rfl; have f9 := hF 6 _ _ rfl rfl; have f10 := hF 5 _ _ rfl rfl; have f11 := hF 4 _ _ rfl rfl; have f12 := hF 3 _ _ rfl rfl; have f13 := hF 2 _ _ rfl rfl; have f14 := hF 1 _ _ rfl rfl; have f15 := hF 0 _ _ rfl rfl; clear hF
              go_simp
              exact hK _ _ (Below.refl _ _) rfl
            refine Plan.nil (fun vs x hR hF => ?_)
            have f0 := hF 16 _ _ rfl; have f1 := hF 15 _ _ rfl; have f2 := hF 14 _ _ rfl; have f3 := hF 13 _ _ rfl; have f4 := hF 12 _ _ rfl; have f5 := hF 11 _ _ rfl; have f6 := hF 10 _ _ rfl; have f7 := hF 9 _ _ rfl; have f8 := hF 8 _ _ rfl; have f9 := hF 7 _ _ rfl; have f10 := hF 6 _ _ rfl; have f11 := hF 5 _ _ rfl; have f12 := hF 4 _ _ rfl; have f13 := hF 3 _ _ rfl; have f14 := hF 2 _ _ rfl; have f15 := hF 1 _ _ rfl; have f16 := hF 0 _ _ rfl
            clear hF
            simp only [f0, f1, f2, f3, f4, f5, f6, f7, f8, f9, f10, f11, f12, f13, f14, f15, f16]
            clear f0 f1 f2 f3 f4 f5 f6 f7 f8 f9 f10 f11 f12 f13 f14 f15 f16
            simp only [List.drop_succ_cons, List.drop_zero]
            have HA2 : Hid (At w R M (c.pre0 p xs.length) p (.slice ad xs.length cap) x) := At.later (wx := wc.drew) ⟨⟨HA.out.1.1.drew, HA.out.1.2.drew⟩, HA.out.2.1.drew, HA.out.2.2.drew⟩ hR
            have q4 := HA2.out.1.1.c7
            have hz := HA2.out.1.1.lt
            clear hR HC q2 HLK
            go_wp2_with fail
            go_meet
            refine At.named HA2.out HRW.out HNE.out _ (HE.out _ ?_)
            rw [HBB.out]
            simp
          · have HBB := hid hb
            rw [hb] at q2 HC
            clear hb
            go_wp2_with fail
            refine wp_region_inv 17 (Below wc.heap.size) (by kernel_rfl) (by kernel_rfl) (Below.refl _) (fun _ _ _ => Below.trans) ?_
            simp only [fill, dstOf, Act.put, List.take_succ_cons, List.take_zero, List.getElem?_toArray, List.getElem?_cons_zero, List.getElem?_cons_succ, Option.bind_some, List.setIfInBounds_toArray, List.set_cons_zero, List.set_cons_succ]
            refine Plan.det 1 rfl (Below.refl _) ?_
            apply Exists.intro
            refine ⟨fun vs x hR hF K hK => ?_, ?_⟩
            · clear hF
              go_simp
              exact hK _ _ (Below.refl _ _) rfl
            refine Plan.det 2 rfl (Below.refl _) ?_
            apply Exists.intro
            refine ⟨fun vs x hR hF K hK => ?_, ?_⟩
            · clear hF
              go_simp
              exact hK _ _ (Below.refl _ _) rfl
            refine Plan.det 3 rfl (Below.refl _) ?_
            apply Exists.intro
            refine ⟨fun vs x hR hF K hK => ?_, ?_⟩
            · have f1 := hF 0 _ _ rfl rfl; clear hF
              go_simp
              exact hK _ _ (Below.refl _ _) rfl
            refine Plan.det 4 rfl (Below.refl _) ?_
            apply Exists.intro
            refine ⟨fun vs x hR hF K hK => ?_, ?_⟩
            · have f2 := hF 0 _ _ rfl rfl; clear hF
              go_simp
              exact hK _ _ (Below.refl _ _) rfl
            refine Plan.det 5 rfl (Below.refl _) ?_
            apply Exists.intro
            refine ⟨fun vs x hR hF K hK => ?_, ?_⟩
            · have f3 := hF 0 _ _ rfl rfl; have hc := HC.out x hR; clear hF
              go_simp
              exact hK _ _ (Below.refl _ _) rfl
            refine Plan.det 6 rfl (Below.refl _) ?_
            apply Exists.intro
            refine ⟨fun vs x hR hF K hK => ?_, ?_⟩
            · have f4 := hF 0 _ _ rfl rfl; clear hF
              go_simp
              exact hK _ _ (Below.refl _ _) rfl
            refine Plan.det 7 rfl (Below.refl _) ?_
            apply Exists.intro
            refine ⟨fun vs x hR hF K hK => ?_, ?_⟩
            · have f5 := hF 0 _ _ rfl rfl; clear hF
              go_simp
              exact hK _ _ (Below.refl _ _) rfl
            refine Plan.det 8 rfl (Below.refl _) ?_
            apply Exists.intro
            refine ⟨fun vs x hR hF K hK => ?_, ?_⟩
            · have f5 := hF 1 _ _ rfl rfl; have f6 := hF 0 _ _ rfl rfl; clear hF
              go_simp
              exact hK _ _ (Below.refl _ _) rfl
            refine Plan.det 9 rfl (Below.refl _) ?_
            apply Exists.intro
            refine ⟨fun vs x hR hF K hK => ?_, ?_⟩
            · have f5 := hF 2 _ _ rfl rfl; have f7 := hF 0 _ _ rfl rfl; clear hF
              go_simp
              exact hK _ _ (Below.refl _ _) rfl
            refine Plan.det 10 rfl (Below.refl _) ?_
            apply Exists.intro
            refine ⟨fun vs x hR hF K hK => ?_, ?_⟩
            · have f5 := hF 3 _ _ rfl rfl; have f8 := hF 0 _ _ rfl rfl; have hc := HC.out x hR; clear hF
              go_simp
              exact hK _ _ (Below.refl _ _) rfl
            refine Plan.det 11 rfl (Below.refl _) ?_
            apply Exists.intro
            refine ⟨fun vs x hR hF K hK => ?_, ?_⟩
            · have f5 := hF 4 _ _ rfl rfl; clear hF
              go_simp
              exact hK _ _ (Below.refl _ _) rfl
            refine Plan.det 12 rfl (Below.refl _) ?_
            apply Exists.intro
            refine ⟨fun vs x hR hF K hK => ?_, ?_⟩
            · have f5 := hF 5 _ _ rfl rfl; have f10 := hF 0 _ _ rfl rfl; have hc := HC.out x hR; clear hF
              go_simp
              exact hK _ _ (Below.refl _ _) rfl
            refine Plan.det 13 rfl (Below.refl _) ?_
            apply Exists.intro
            refine ⟨fun vs x hR hF K hK => ?_, ?_⟩
            · have f5 := hF 6 _ _ rfl rfl; have f9 := hF 2 _ _ rfl rfl; have f11 := hF 0 _ _ rfl rfl; clear hF
              have hl := HLK.out x hR
              go_simp
              exact hK _ _ (Below.refl _ _) rfl
            refine Plan.det 14 rfl (Below.refl _) ?_
            apply Exists.intro
            refine ⟨fun vs x hR hF K hK => ?_, ?_⟩
            · have f5 := hF 7 _ _ rfl rfl; have f12 := hF 0 _ _ rfl rfl; clear hF
              go_simp
              exact hK _ _ (Below.refl _ _) rfl
            refine Plan.det 15 rfl (Below.refl _) ?_
            apply Exists.intro
            refine ⟨fun vs x hR hF K hK => ?_, ?_⟩
            · have f5 := hF 8 _ _ rfl rfl; have f13 := hF 0 _ _ rfl rfl; clear hF
              go_simp
              exact hK _ _ (Below.refl _ _) rfl
            refine Plan.det 16 rfl (Below.refl _) ?_
            apply Exists.intro
            refine ⟨fun vs x hR hF K hK => ?_, ?_⟩
            · have f0 := hF 14 _ _ rfl rfl; have f1 := hF 13 _ _ rfl rfl; have f2 := hF 12 _ _ rfl rfl; have f3 := hF 11 _ _ rfl rfl; have f4 := hF 10 _ _ rfl rfl; have f5 := hF 9 _ _ rfl rfl; have f6 := hF 8 _ _ rfl rfl; have f7 := hF 7 _ _ rfl rfl; have f8 := hF 6 _ _ rfl rfl; have f9 := hF 5 _ _ rfl rfl; have f10 := hF 4 _ _ rfl rfl; have f11 := hF 3 _ _ rfl rfl; have f12 := hF 2 _ _ rfl rfl; have f13 := hF 1 _ _ rfl rfl; have f14 := hF 0 _ _ rfl rfl; clear hF
              go_simp
              exact hK _ _ (Below.refl _ _) rfl
            refine Plan.det 17 rfl (Below.refl _) ?_
            apply Exists.intro
            refine ⟨fun vs x hR hF K hK => ?_, ?_⟩
            · have f0 := hF 15 _ _ rfl rfl; have f1 := hF 14 _ _ rfl rfl; have f2 := hF 13 _ _ rfl rfl; have f3 := hF 12 _ _ rfl rfl; have f4 := hF 11 _ _ rfl rfl; have f5 := hF 10 _ _ rfl rfl; have f6 := hF 9 _ _ rfl rfl; have f7 := hF 8 _ _ rfl rfl; have f8 := hF 7 _ _ rfl rfl; have f9 := hF 6 _ _ rfl rfl; have f10 := hF 5 _ _ rfl rfl; have f11 := hF 4 _ _ rfl rfl; have f12 := hF 3 _ _ rfl rfl; have f13 := hF 2 _ _ rfl rfl; have f14 := hF 1 _ _ rfl rfl; have f15 := hF 0 _ _ rfl rfl; clear hF
              go_simp
              exact hK _ _ (Below.refl _ _) rfl
            refine Plan.nil (fun vs x hR hF => ?_)
            have f0 := hF 16 _ _ rfl; have f1 := hF 15 _ _ rfl; have f2 := hF 14 _ _ rfl; have f3 := hF 13 _ _ rfl; have f4 := hF 12 _ _ rfl; have f5 := hF 11 _ _ rfl; have f6 := hF 10 _ _ rfl; have f7 := hF 9 _ _ rfl; have f8 := hF 8 _ _ rfl; have f9 := hF 7 _ _ rfl; have f10 := hF 6 _ _ rfl; have f11 := hF 5 _ _ rfl; have f12 := hF 4 _ _ rfl; have f13 := hF 3 _ _ rfl; have f14 := hF 2 _ _ rfl; have f15 := hF 1 _ _ rfl; have f16 := hF 0 _ _ rfl
            clear hF
            simp only [f0, f1, f2, f3, f4, f5, f6, f7, f8, f9, f10, f11, f12, f13, f14, f15, f16]
            clear f0 f1 f2 f3 f4 f5 f6 f7 f8 f9 f10 f11 f12 f13 f14 f15 f16
            simp only [List.drop_succ_cons, List.drop_zero]
            have HA2 : Hid (At w R M (c.pre0 p xs.length) p (.slice ad xs.length cap) x) := At.later (wx := wc.drew) ⟨⟨HA.out.1.1.drew, HA.out.1.2.drew⟩, HA.out.2.1.drew, HA.out.2.2.drew⟩ hR
            have q4 := HA2.out.1.1.c7
            have hz := HA2.out.1.1.lt
            clear hR HC q2 HLK
            go_wp2_with fail
            go_meet
            refine At.named HA2.out HRW.out HNE.out _ (HE.out _ ?_)
            rw [HBB.out]
            simp
        have e : c.pre p xs.length = c.pre0 p xs.length := by simp [Ck.pre, Ck.pre0, o5, o6, o9]
        have d5 : (p.op == 5) = false := by simpa using o5
        have d6 : (p.op == 6) = false := by simpa using o6
        have d9 : (p.op == 9) = false := by simpa using o9
        have HE := hid e
        clear o5 o6 o9 e
        go_wp2_with fail
        go_meet
        rw [HE.out]
        exact ⟨HC2.out, HB2.out, HU2.out⟩
      case rest =>
        obtain ⟨hck, hbx, hbut⟩ := hcut
        have HC3 := hid hck
        have HB3 := hid hbx
        have HU3 := hid hbut
        have q4 := hck.1.c7
        have q5 := hbx.c9
        have hRl3 := hck.1.lt
        have hBl3 := hbx.lt
        have hs3 := hbut.size
        clear hck hbx hbut HC2 HB2 HU2 q2 q3
        have hpn : (c.pre p xs.length).nodes = c.nodes + 1 := rfl
        have hpg : (c.pre p xs.length).groups ≤ c.groups + 1 := by simp only [Ck.pre]; split <;> omega
        have HPN := hid hpn
        clear hpn
        go_wp2_with fail
        go_loopw [7, 119] (fun v i wr => ∃ (k lv : Nat) (cc : Ck), k ≤ xs.length ∧ i = .int .i64 k ∧ v = .int .i64 lv ∧ Hid (Re.checks (xs.take k) (c.pre p xs.length) 0 = (cc, lv)) ∧ At w R M cc p (.slice ad xs.length cap) wr) (fun _ i _ => xs.length - (intOf i).toNat)
        case atStart => exact ⟨0, 0, _, by omega, rfl, rfl, rfl, HC3.out, HB3.out, HU3.out⟩
        case round =>
          obtain ⟨k, lv, cc, hk, rfl, rfl, hcc, HX⟩ := hrel
          have hbw : Below wb.heap.size wb wr := HBW.out.trans (HX.2.2.below hsw (by intro k hk; simp at hk; omega))
          have HBWr := hid hbw
          clear hbw
          have q6 := HX.1.1.c7
          have q7 := HX.2.1.c9
          have hR4 := HX.1.1.lt
          have hB4 := HX.2.1.lt
          have hM4 := HX.1.2.lt
          by_cases hlt : k < xs.length
          · skip
            obtain ⟨b, o, p', ad', n', cap', rfl, HC, HI0, hbb⟩ := HAL.out.kid HBWr.out k hlt
            have hct := hid (Re.checks_take xs k xs[k] (c.pre p xs.length) 0 (by simp [hlt]))
            have hnod : cc.nodes = c.nodes + 1 + Re.sizes (xs.take k) := by have h1 := Re.checks_nodes (xs.take k) (c.pre p xs.length) 0; rw [hcc.out] at h1; exact h1
            have hgrp : cc.groups = (c.pre p xs.length).groups + Re.counts (· == 6) (xs.take k) := by have h1 := Re.checks_groups (xs.take k) (c.pre p xs.length) 0; rw [hcc.out] at h1; exact h1
            have hgl := Re.counts_le (· == 6) (xs.take k)
            have hst := Re.counts_take (fun _ => true) xs k xs[k] (by simp [hlt])
            have hst1 := Re.counts_take_le (fun _ => true) xs (k + 1)
            have hlv := Re.checks_levels (xs.take k) (c.pre p xs.length) 0
            rw [hcc.out] at hlv
            have hlv2 := Re.check_levels xs[k] cc
            simp only [Re.sizes, Re.size] at *
            have hcall := hid (HIH.out xs[k] (by simp) (wr.alloc (.cells #[.int .i64 p'.op, .int .u64 p'.set.a, .int .u64 p'.set.b, .int .u64 p'.set.c, .int .u64 p'.set.d, .int .i64 p'.lo, .int .i64 p'.hi, .int .i64 p'.gr, .slice ad' n' cap'] 28)) _ cc HI0.out (HBWr.out.alloc (Nat.le_trans hsw (by omega)) _) ⟨HX.1.1.alloc _, HX.1.2.alloc _⟩ (by omega) (by omega))
            clear hnod hgrp hgl hst
            go_wp2_with (first | (with_reducible (refine wpList_load_agg rfl 28 _ rfl b (o + (k * 9)) rfl _ _ HC.out Tryd.underlying28 rfl (size_re9 _ _ _ _ _ _ _ _ _) ?_)))
            refine hcall.out.mono ?_
            rintro e w2 ⟨rfl, hb2, hr2⟩
            have HB2 := hid hb2
            have HR2 := hid hr2
            clear hb2 hr2 hcall
            go_wp2_with fail
            all_goals
              go_roundw
              case rel =>
                refine ⟨k + 1, max lv (xs[k].check cc).2, (xs[k].check cc).1, by omega, by go_num, by go_num, ?_, HR2.out, ?_, ?_⟩
                · show _ = _
                  rw [hct.out, hcc.out]
                · exact ((HX.2.1.alloc _).but HB2.out (by simp; omega))
                · exact ((HX.2.2.alloc _).trans HB2.out)
              case measure => simp [intOf]; omega
          · obtain rfl : k = xs.length := by omega
            have hcc' : Re.checks xs (c.pre p xs.length) 0 = (cc, lv) := by have := hcc.out; rwa [List.take_length] at this
            have hlv := Re.checks_levels xs (c.pre p xs.length) 0
            rw [hcc'] at hlv
            have hlv3 : lv ≤ 1048577 := by omega
            have hres : Hid (Re.check (.mk p xs) c = (cc.post p (c.pre p xs.length).groups, lv + 1)) := by
              show _ = _
              rw [Re.check, hcc']
            clear hcc' hlv hcc
            have hgo := hid (Ck.post.eq_1 cc p (c.pre p xs.length).groups)
            generalize hpost : cc.post p (c.pre p xs.length).groups = cf at hgo hres
            generalize hown : (c.pre p xs.length).groups = own at *
            by_cases o6 : p.op = 6
            · have d6 : (p.op == 6) = true := by simpa using o6
              by_cases og : p.gr = own
              · have dg : (p.gr == (own : Int)) = true := by simpa using og
                have hcf : Hid (cf = { cc with closed := fun k => decide (k = own) || cc.closed k }) := by show _ = _; rw [hgo.out, if_pos ⟨o6, og⟩]
                clear o6 og
                have HIM := hid HX.1.2
                go_wp2_with (with_reducible (refine wpList_update_imap rfl 80 _ _ _ rfl M _ HIM.out rfl (own : Int) rfl (.bool true) rfl 3 4 Tryd.underlying80 Tryd.underlying3 ?_))
                intro w' him hbut
                have H1 := hid him
                have H2 := hid hbut
                clear him hbut
                go_wp2_with fail
                go_ret
                rw [hres.out]
                refine ⟨ret_int (by simp), HX.2.2.trans (H2.out.mono (by simp)), ?_⟩
                rw [hcf.out]
                refine ⟨HX.1.1.but H2.out (by simpa using HNE.out), ?_⟩
                have e : onOff (fun k => decide (k = (own : Int)) || cc.closed k) = fun x => if x = (own : Int) then some (.bool true) else onOff cc.closed x := by
                  funext x
                  unfold onOff
                  by_cases hx : x = own <;> simp [hx]
                rw [show ({ cc with closed := fun k => decide (k = (own : Int)) || cc.closed k } : Ck).closed = fun k => decide (k = (own : Int)) || cc.closed k from rfl, e]
                exact H1.out
              · have dg : (p.gr == (own : Int)) = false := by simpa using og
                have hcf : Hid (cf = cc) := by show _ = _; rw [hgo.out, if_neg (fun h => og h.2)]
                clear o6 og
                go_wp2_with fail
                go_ret
                rw [hres.out]
                refine ⟨ret_int (by simp), HX.2.2, ?_⟩
                rw [hcf.out]
                exact HX.1
            · have d6 : (p.op == 6) = false := by simpa using o6
              have hcf : Hid (cf = cc) := by show _ = _; rw [hgo.out, if_neg (fun h => o6 h.1)]
              clear o6
              go_wp2_with fail
              go_ret
              rw [hres.out]
              refine ⟨ret_int (by simp), HX.2.2, ?_⟩
              rw [hcf.out]
              exact HX.1
end Go.Proofs.YthnpbopnpdlmnaaDoor
