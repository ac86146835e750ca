/- Reback's reference: a search at an offset. -/
import Derived.Test.YtnnocekencaadaaG26
import Derived.Test.YtnnocekencaadaaG29
namespace Go.Proofs.Ytnnocekencaadaa
open Go.RowKit
attribute [local go_sem] gives givesUpon
variable {C : RCtx}

/-- How a search at offsets may end. -/
def RAtPost (C : RCtx) (E : Out → Nat → Prop) (w : World) (e : Ending) (w' : World) : Prop :=
  ∃ (o : Out) (m : Nat) (v : Value), E o m ∧ e = .returned (.tuple #[.agg #[v], .bool o.isFound]) ∧ C.St m o.isOver w' ∧ But [C.X] w w' ∧ (∀ l, o = .found l → SpB (w.heap.size ≤ ·) w' v l) ∧ (o.isFound = false → v = .slice none 0 0)
theorem RCtx.St.put {n : Nat} {ov : Bool} {w : World} (h : C.St n ov w) {b : Nat} {cs : List Value} {T : TypeId} (hr : Row w b cs T) (h1 : T ≠ 64) (h3 : C.w0.heap.size ≤ b) (j : Nat) (v : Value) : C.St n ov (w.setCell ⟨b, j, none⟩ v) :=
  ⟨h.below.setCell (by exact h3) _, h.x.other (fun e => by subst e; exact h1 (hr.typed h.x)) _ _, h.oX, h.nB, h.big, h.len, h.few⟩
theorem Row.own2 {w : World} {B base n m : Nat} {cs : List Value} {T : TypeId} (h : Row w B cs T) (hb : base ≤ B) (hl : cs.length = n * m) (hm : n ≤ maxLen) : w.ownsRow base T m (.slice (some ⟨B, 0, none⟩) n n) n cs :=
  ⟨hl, .inr ⟨B, n, cs.toArray, rfl, hb, h, Nat.le_refl _, hm, by simpa using hl, by rw [← hl]; simp⟩⟩

theorem Row.grownOwn {w w' : World} {B : Nat} {cs : List Value} {T e : TypeId} {base size n : Nat} {v : Value} {xs : List Value} (r : Row w B cs T) (h : w.ownsRow base e size v n xs) (hne : T ≠ e) (hg : w.grownBy w' v.ownBlock) : Row w' B cs T := by
  refine (hg.block B r.lt fun e1 => ?_).trans r
  obtain ⟨-, h2⟩ := h
  rcases h2 with ⟨hv, -⟩ | ⟨g', cap, cur, hv, -, hh, -⟩
  · rw [hv] at e1; cases e1
  · rw [hv] at e1
    have e2 : B = g' := by simpa [Value.ownBlock] using e1
    subst e2
    unfold Row at r
    rw [hh] at r
    simp only [Option.some.injEq, Obj.cells.injEq] at r
    exact hne r.2.1.symm

-- def FN := (*texttools/texttoolsref14.search).at
-- def BX := [.int .i64 p.op, .int .u64 p.set.a, .int .u64 p.set.b, .int .u64 p.set.c, .int .u64 p.set.d, .int .i64 p.lo, .int .i64 p.hi, .int .i64 p.gr, .slice ad xs.length cp]
-- def W2 := ((w.alloc (.cells #[.int .i64 p.op, .int .u64 p.set.a, .int .u64 p.set.b, .int .u64 p.set.c, .int .u64 p.set.d, .int .i64 p.lo, .int .i64 p.hi, .int .i64 p.gr, .slice ad xs.length cp] 28)).alloc (.cells #[.slice none 0 0] 35))
-- def TX := [.int .i64 1, .int .i64 p.op, .int .u64 p.set.a, .int .u64 p.set.b, .int .u64 p.set.c, .int .u64 p.set.d, .int .i64 p.lo, .int .i64 p.hi, .int .i64 p.gr, .slice ad xs.length cp, .int .i64 at_, .int .i64 k, .int .i64 0, .slice none 0 0, .pointer none]
-- def WF := ((w'.alloc (.cells #[.int .i64 at_, .int .i64 k] 44)).alloc (.cells #[.slice (some ⟨w'.heap.size, 0, none⟩) 1 1] 35))
/-- What the loop over ends keeps. -/
def RAtL (C : RCtx) (w : World) (n : Nat) (e : Re) (at_ : Nat) (BXL : List Value) (nv : Value) (c : Nat) (ov : Bool) (wr : World) : Prop :=
  (Row wr w.heap.size BXL 28 ∧ Row wr (w.heap.size + 1) [.slice none 0 0] 35) ∧ SpB (w.heap.size ≤ ·) wr nv (unsetAll C.N) ∧ But [C.X] w wr ∧
  (ov = false → ∃ n', n' ≤ n ∧ C.St n' false wr ∧ ∀ o m, EvAt C.str C.lines e C.N at_ c n' o m → EvAt C.str C.lines e C.N at_ (C.s.size + 1 - at_) n o m) ∧ (ov = true → C.St 0 true wr ∧ EvAt C.str C.lines e C.N at_ (C.s.size + 1 - at_) n .over 0)

set_option maxRecDepth 100000 in
set_option maxHeartbeats 16000000 in
theorem rat_any (w : World) (n : Nat) (p : Pay) (xs : List Re) (ad : Option Addr) (cp at_ : Nat) (hin : (Re.mk p xs).In C.w0 [.int .i64 p.op, .int .u64 p.set.a, .int .u64 p.set.b, .int .u64 p.set.c, .int .u64 p.set.d, .int .i64 p.lo, .int .i64 p.hi, .int .i64 p.gr, .slice ad xs.length cp]) (hok : (Re.mk p xs).ok C.N) (hgr : (Re.mk p xs).groups = C.N) (hsz : (Re.mk p xs).size ≤ 1048576) (hat : at_ ≤ C.s.size) (h : C.St n false w) :
    Calls Try.prog 28 #[.pointer (some ⟨C.X, 0, none⟩), .agg #[.int .i64 p.op, .int .u64 p.set.a, .int .u64 p.set.b, .int .u64 p.set.c, .int .u64 p.set.d, .int .i64 p.lo, .int .i64 p.hi, .int .i64 p.gr, .slice ad xs.length cp], .int .i64 at_] w (RAtPost C (EvAt C.str C.lines (.mk p xs) C.N at_ (C.s.size + 1 - at_) n) w) := by
  have R0 : Row ((w.alloc (.cells #[.int .i64 p.op, .int .u64 p.set.a, .int .u64 p.set.b, .int .u64 p.set.c, .int .u64 p.set.d, .int .i64 p.lo, .int .i64 p.hi, .int .i64 p.gr, .slice ad xs.length cp] 28)).alloc (.cells #[.slice none 0 0] 35)) w.heap.size [.int .i64 p.op, .int .u64 p.set.a, .int .u64 p.set.b, .int .u64 p.set.c, .int .u64 p.set.d, .int .i64 p.lo, .int .i64 p.hi, .int .i64 p.gr, .slice ad xs.length cp] 28 := (Row.new rfl).alloc _
  have R1 : Row ((w.alloc (.cells #[.int .i64 p.op, .int .u64 p.set.a, .int .u64 p.set.b, .int .u64 p.set.c, .int .u64 p.set.d, .int .i64 p.lo, .int .i64 p.hi, .int .i64 p.gr, .slice ad xs.length cp] 28)).alloc (.cells #[.slice none 0 0] 35)) (w.heap.size + 1) [.slice none 0 0] 35 := Row.new (by simp)
  have hB : Below w.heap.size w ((w.alloc (.cells #[.int .i64 p.op, .int .u64 p.set.a, .int .u64 p.set.b, .int .u64 p.set.c, .int .u64 p.set.d, .int .i64 p.lo, .int .i64 p.hi, .int .i64 p.gr, .slice ad xs.length cp] 28)).alloc (.cells #[.slice none 0 0] 35)) := ((Below.refl w.heap.size w).alloc (Nat.le_refl _) _).alloc (by simp) _
  have HRR := hid (⟨R0, R1⟩ : _ ∧ _)
  have HB := hid hB
  have q0 := R0.c9
  have qc := (h.later hB).c
  have HP := hid h
  have HIN := hid hin
  have HOK := hid hok
  have HGR := hid hgr
  have HSZ := hid hsz
  have hlen := h.len
  have hfew := h.few
  obtain ⟨i0, hi, hz0, hz1, hz2⟩ := info_parts info_span
  clear h hin hok hB R0 R1 hgr hsz
  go_enter Try.func28, Try.ntmps28
  go_wp2_with fail
  go_loopw [8, 9] (fun v i wr => ∃ (k : Nat) (a : Option Addr) (c : Nat), k ≤ C.N ∧ v = .slice a k c ∧ i = .int .i64 k ∧ Hid (OwnSp wr w.heap.size (.slice a k c) (unsetAll k) ∧ (Row wr w.heap.size [.int .i64 p.op, .int .u64 p.set.a, .int .u64 p.set.b, .int .u64 p.set.c, .int .u64 p.set.d, .int .i64 p.lo, .int .i64 p.hi, .int .i64 p.gr, .slice ad xs.length cp] 28 ∧ Row wr (w.heap.size + 1) [.slice none 0 0] 35) ∧ Below w.heap.size w wr)) (fun _ i _ => C.N - (intOf i).toNat)
  case atStart => exact ⟨0, none, 0, Nat.zero_le _, rfl, rfl, ⟨fun _ => rfl, World.ownsRow_nil _ _ _ _⟩, HRR.out, HB.out⟩
  case round =>
    obtain ⟨k, a, c, hk, rfl, rfl, HX⟩ := hrel
    have p0 := HX.out.2.1.1.c9
    clear q0 qc
    go_wp2_with fail
    refine (GroupsRef_any (.mk p xs) _ _ (HIN.out.below (HP.out.below.trans (HX.out.2.2.mono HP.out.below.size))) HSZ.out).mono ?_
    rintro e wg ⟨rfl, hbg⟩
    rw [HGR.out]
    have HY : Hid (OwnSp wg w.heap.size (.slice a k c) (unsetAll k) ∧ (Row wg w.heap.size [.int .i64 p.op, .int .u64 p.set.a, .int .u64 p.set.b, .int .u64 p.set.c, .int .u64 p.set.d, .int .i64 p.lo, .int .i64 p.hi, .int .i64 p.gr, .slice ad xs.length cp] 28 ∧ Row wg (w.heap.size + 1) [.slice none 0 0] 35) ∧ Below w.heap.size w wg) :=
      ⟨HX.out.1.below hbg, ⟨HX.out.2.1.1.below hbg HX.out.2.1.1.lt, HX.out.2.1.2.below hbg HX.out.2.1.2.lt⟩, HX.out.2.2.trans (hbg.mono HX.out.2.2.size)⟩
    clear hbg p0
    by_cases hlt : k < C.N
    · have hltI : (k : Int) < C.N := by omega
      have hlk : (unsetAll k).length = k := by simp [unsetAll]
      have hown := HY.out.1.2
      rw [hlk] at hown
      have HOW := hid hown
      have hsz := HY.out.2.2.size
      clear hown
      go_wp2_with (at_builtin; refine wpList_append_row rfl _ _ 33 rfl w.heap.size 44 i0 (.agg #[.int .i64 0, .int .i64 0]) 2 16 Try.underlying33 hi hz0 hz1 hz2 rfl (by decide) _ k (spc (unsetAll k)) rfl ?c0 ⟨wg.heap.size, 0, none⟩ 1 1 [.int .i64 (-1), .int .i64 (-1)] rfl rfl ?c1 ?c2 ?c3 ?c4 ?c5 (by decide) ?_)
      case c0 => exact HOW.out.alloc _
      case c1 =>
        intro j u hj
        rw [Addr.add_lit, Nat.zero_add]
        exact (Row.new (w := wg) (cs := [.int .i64 (-1), .int .i64 (-1)]) (T := 44) rfl).cell j ▸ hj
      case c2 => intro u hu; simp at hu; rcases hu with rfl | rfl <;> rfl
      case c3 => unfold maxLen; omega
      case c4 => omega
      case c5 => simp; omega
      intro a2 c2 w3 hown3 hgrow hnw
      have hap : OwnSp w3 w.heap.size (.slice a2 (k + 1) c2) (unsetAll (k + 1)) := by
        have := OwnSp.app (m := [(-1, -1)]) (l := unsetAll k) (by simp) hown3 (by rw [hlk]; rfl)
        rw [show unsetAll k ++ [((-1 : Int), (-1 : Int))] = unsetAll (k + 1) from (List.replicate_succ' ..).symm] at this
        exact this
      have hg1 : ∀ g, (Value.slice a k c).ownBlock = some g → w.heap.size ≤ g := fun g hg => (World.ownsRow.lt HOW.out g hg).1
      have hbw : Below w.heap.size w w3 := (HY.out.2.2.alloc (by omega) _).grown hgrow (by simp; omega) hg1
      have hr1 : Row w3 w.heap.size [.int .i64 p.op, .int .u64 p.set.a, .int .u64 p.set.b, .int .u64 p.set.c, .int .u64 p.set.d, .int .i64 p.lo, .int .i64 p.hi, .int .i64 p.gr, .slice ad xs.length cp] 28 := ((HY.out.2.1.1.alloc _).grownOwn (HOW.out.alloc _) (by decide) hgrow)
      have hr2 : Row w3 (w.heap.size + 1) [.slice none 0 0] 35 := ((HY.out.2.1.2.alloc _).grownOwn (HOW.out.alloc _) (by decide) hgrow)
      have HN := hid (⟨hap, ⟨hr1, hr2⟩, hbw⟩ : _ ∧ (_ ∧ _) ∧ _)
      clear hown3 hgrow hnw hap hbw hr1 hr2 hg1
      go_wp2_with fail
      refine ⟨⟨k + 1, a2, c2, by omega, rfl, by go_num, HN.out⟩, ?_⟩
      simp [intOf]; omega
    · obtain rfl : k = C.N := by omega
      have HZ0 := hid (⟨HY.out.1.spb, HY.out.2.1, HY.out.2.2⟩ : SpB (w.heap.size ≤ ·) _ _ _ ∧ _ ∧ _)
      have qc := (HP.out.later HY.out.2.2).c
      have hltI : ¬ (C.N : Int) < C.N := by omega
      clear HX HY hlt
      go_wp2_with fail
      go_loopw [10] (fun v wr => ∃ (J : Int) (d : Nat) (ov : Bool), v = .int .i64 J ∧ J = (at_ : Int) + d - 1 ∧ d ≤ C.s.size + 1 - at_ ∧ Hid (RAtL C w n (.mk p xs) at_ [.int .i64 p.op, .int .u64 p.set.a, .int .u64 p.set.b, .int .u64 p.set.c, .int .u64 p.set.d, .int .i64 p.lo, .int .i64 p.hi, .int .i64 p.gr, .slice ad xs.length cp] (.slice a C.N c) d ov wr)) (fun v _ => (intOf v + 1 - at_).toNat)
      case atStart =>
        exact ⟨(C.s.size : Int), C.s.size + 1 - at_, false, rfl, by omega, Nat.le_refl _, ⟨HZ0.out.2.1, HZ0.out.1, But.of_below HZ0.out.2.2, fun _ => ⟨n, Nat.le_refl _, HP.out.later HZ0.out.2.2, fun o m he => he⟩, fun e => by cases e⟩⟩
      case round =>
        clear HZ0 qc
        obtain ⟨J, d, ov, rfl, hJ, hd, HL⟩ := hrel
        cases ov with
        | true =>
          obtain ⟨⟨r0, r1⟩, hsp, hbut, -, hov⟩ := HL.out
          obtain ⟨hst, hev⟩ := hov rfl
          have p0 := r0.c9
          have pc := hst.c
          have p1 := r1.cell 0
          have pf := r1.free 0
          have HX := hid (⟨r1, hbut, hst, hev⟩ : _ ∧ _ ∧ _ ∧ _)
          clear r0 r1 hbut hov hst hev HL hsp
          by_cases hJi : (at_ : Int) ≤ J
          · have d2 : decide ((at_ : Int) ≤ J) = true := by simp [hJi]
            clear hJ
            go_wp2_with fail
            refine bodyPost_ret (results_cell_tmp rfl _ _ (w.heap.size + 1) _ _ _ _ rfl (show _ = some (Obj.cells (List.toArray _) _) from HX.out.1.set 0 (.slice none 0 0)) Try.underlying35 rfl (by kernel_rfl)) rfl ?_
            exact ⟨.over, 0, _, HX.out.2.2.2, rfl, HX.out.2.2.1.put HX.out.1 (by decide) (by have := HP.out.below.size; omega) 0 _, HX.out.2.1.setCell (.inr (by simp)) _, fun l hl => (by cases hl), fun _ => rfl⟩
          · have d2 : decide ((at_ : Int) ≤ J) = false := by simp [hJi]
            clear hJ
            go_wp2_with fail
            refine bodyPost_ret (results_cell_tmp rfl _ _ (w.heap.size + 1) _ _ _ _ rfl (show _ = some (Obj.cells (List.toArray _) _) from HX.out.1.set 0 (.slice none 0 0)) Try.underlying35 rfl (by kernel_rfl)) rfl ?_
            exact ⟨.over, 0, _, HX.out.2.2.2, rfl, HX.out.2.2.1.put HX.out.1 (by decide) (by have := HP.out.below.size; omega) 0 _, HX.out.2.1.setCell (.inr (by simp)) _, fun l hl => (by cases hl), fun _ => rfl⟩
        | false =>
          obtain ⟨⟨r0, r1⟩, hsp, hbut, hpr, -⟩ := HL.out
          obtain ⟨m', hm', hst, hrest⟩ := hpr rfl
          have p0 := r0.c9
          have pc := hst.c
          have p1 := r1.cell 0
          have pf := r1.free 0
          cases d with
          | zero =>
            have HX := hid (⟨r1, hbut, hst, hrest _ _ .none⟩ : _ ∧ _ ∧ _ ∧ _)
            have d2 : decide ((at_ : Int) ≤ J) = false := by simp; omega
            have d3 : ¬ (at_ : Int) ≤ J := by omega
            clear r0 r1 hbut hpr hst hrest HL hsp hJ
            go_wp2_with fail
            refine bodyPost_ret (results_cell_tmp rfl _ _ (w.heap.size + 1) _ _ _ _ rfl (show _ = some (Obj.cells (List.toArray _) _) from HX.out.1.set 0 (.slice none 0 0)) Try.underlying35 rfl (by kernel_rfl)) rfl ?_
            exact ⟨.fail, m', _, HX.out.2.2.2, rfl, HX.out.2.2.1.put HX.out.1 (by decide) (by have := HP.out.below.size; omega) 0 _, HX.out.2.1.setCell (.inr (by simp)) _, fun l hl => (by cases hl), fun _ => rfl⟩
          | succ d =>
            obtain ⟨k, hk⟩ : ∃ k : Nat, k = at_ + d := ⟨_, rfl⟩
            obtain rfl : J = (k : Int) := by omega
            have hak : at_ ≤ k := by omega
            have hks : k ≤ C.s.size := by omega
            have HK := hid hk
            have HX := hid (⟨r0, r1, hsp, hbut, hst, hrest⟩ : _ ∧ _ ∧ _ ∧ _ ∧ _ ∧ _)
            have hM' := hid hm'
            have hkI : (at_ : Int) ≤ (k : Int) := by omega
            clear r0 r1 hsp hbut hpr hst hrest HL hJ hk
            go_wp2_with fail
            have hbt : Below wr.heap.size wr (wr.alloc (.cells #[.int .i64 1, .int .i64 p.op, .int .u64 p.set.a, .int .u64 p.set.b, .int .u64 p.set.c, .int .u64 p.set.d, .int .i64 p.lo, .int .i64 p.hi, .int .i64 p.gr, .slice ad xs.length cp, .int .i64 at_, .int .i64 k, .int .i64 0, .slice none 0 0, .pointer none] 90)) := (Below.refl _ _).alloc (Nat.le_refl _) _
            have hul : (unsetAll C.N).length = C.N := by simp [unsetAll]
            have hspx : SpAt [C.X] (wr.alloc (.cells #[.int .i64 1, .int .i64 p.op, .int .u64 p.set.a, .int .u64 p.set.b, .int .u64 p.set.c, .int .u64 p.set.d, .int .i64 p.lo, .int .i64 p.hi, .int .i64 p.gr, .slice ad xs.length cp, .int .i64 at_, .int .i64 k, .int .i64 0, .slice none 0 0, .pointer none] 90)) (.slice a C.N c) (unsetAll C.N) := (HX.out.2.2.1.below hbt).mono fun b _ hb hm => by
              have e := List.mem_singleton.1 hm
              have h7 := HP.out.x.lt
              omega
            have hH := rtry_all (C := C) m' (wr.alloc (.cells #[.int .i64 1, .int .i64 p.op, .int .u64 p.set.a, .int .u64 p.set.b, .int .u64 p.set.c, .int .u64 p.set.d, .int .i64 p.lo, .int .i64 p.hi, .int .i64 p.gr, .slice ad xs.length cp, .int .i64 at_, .int .i64 k, .int .i64 0, .slice none 0 0, .pointer none] 90)) wr.heap.size p xs ad cp at_ k (.int .i64 0) (.slice none 0 0) (unsetAll C.N) .done a c none (Row.new rfl) HIN.out HOK.out hak hks
              ⟨HX.out.2.2.2.2.1.later hbt, by rw [hul]; exact hspx, ⟨hul, fun y hy => .inl (List.mem_replicate.1 hy).2⟩, .done, trivial⟩
            rw [hul] at hH
            refine hH.mono ?_
            clear hH hul
            rintro e w' ⟨o', m, va, vn, vc, h1, rfl, h3, h4, h5, h6⟩
            have HE := hid h1
            have HS3 := hid h3
            have HBW : Hid (But [C.X] wr w') := (But.of_below hbt).trans h4
            have HR2 := hid (⟨HX.out.1.but HBW.out (HX.out.2.2.2.2.1.nX HX.out.1 (by decide)), HX.out.2.1.but HBW.out (HX.out.2.2.2.2.1.nX HX.out.2.1 (by decide))⟩ : Row w' _ _ _ ∧ Row w' _ _ _)
            have HSP2 := hid (HX.out.2.2.1.but HBW.out (fun b hb hm => by
                have e := List.mem_singleton.1 hm
                have h7 := HP.out.x.lt
                omega))
            have HBW2 := hid (HX.out.2.2.2.1.trans HBW.out)
            have hkw : IntKind.i64.wrap ((k : Int) - 1) = (k : Int) - 1 := by rw [IntKind.wrap_i64]; omega
            have hsz := HR2.out.2.lt
            have HF5 := hid h5
            have HF6 := hid h6
            clear h1 h3 h4 h5 h6 hbt p0 pc p1 pf
            have p0 := HR2.out.1.c9
            have p4 := HR2.out.2.cell 0
            have p4f := HR2.out.2.free 0
            have pc := HS3.out.c
            cases o' with
            | found l =>
              obtain ⟨hso, hsa⟩ := HF5.out l rfl
              have hln : vn = l.length := by obtain ⟨_, _, e⟩ := hsa.form; injection e
              subst hln
              have hll := hso.1
              have hl9 : l.length ≤ 9 := by rw [hll]; exact hfew
              have HSL := hid hsa
              have HE2 : Hid (EvAt C.str C.lines (.mk p xs) C.N at_ (C.s.size + 1 - at_) n (.found (((at_ : Int), (k : Int)) :: l)) m) := HX.out.2.2.2.2.2 _ _ (by have h9 := HE.out; rw [HK.out] at h9 ⊢; exact .hit h9)
              have hwr := HX.out.2.2.2.1.size
              have HFIN : Hid (∀ (wy : World) (a2 : Option Addr) (c2 n2 : Nat), n2 = l.length + 1 → Below w'.heap.size w' wy → SpB (w.heap.size ≤ ·) wy (.slice a2 n2 c2) (((at_ : Int), (k : Int)) :: l) → RAtPost C (EvAt C.str C.lines (.mk p xs) C.N at_ (C.s.size + 1 - at_) n) w (.returned (.tuple #[.agg #[.slice a2 n2 c2], .bool true])) (wy.setCell ⟨w.heap.size + 1, 0, none⟩ (.slice a2 n2 c2))) := by
                intro wy a2 c2 n2 hn2 hb3 hs3
                have hr3 := HR2.out.2.below hb3 HR2.out.2.lt
                refine ⟨.found _, m, _, HE2.out, rfl, (HS3.out.later hb3).put hr3 (by decide) (by have := HP.out.below.size; omega) 0 _, (HBW2.out.trans (But.of_below hb3)).setCell (.inr (by simp)) _, fun l' hl' => ?_, fun h => (by cases h)⟩
                injection hl' with hl'
                subst hl'
                rcases hs3 with ⟨h0, -⟩ | ⟨h0, b, c, more, e, hb, hr⟩
                · cases h0
                · refine .inr ⟨h0, b, c, more, e, hb, hr.other (fun e2 => ?_) _ _⟩
                  subst e2
                  exact absurd (hr.typed hr3) (by decide)
              simp only [Out.isFound]
              clear HF5 HF6 hso hsa hll
              go_upto_region 12 with fail
              have hZ1 : Row ((w'.alloc (.cells #[.int .i64 at_, .int .i64 k] 44)).alloc (.cells #[.slice (some ⟨w'.heap.size, 0, none⟩) 1 1] 35)) w'.heap.size [.int .i64 at_, .int .i64 k] 44 := (Row.new rfl).alloc _
              have hZ2 : Row ((w'.alloc (.cells #[.int .i64 at_, .int .i64 k] 44)).alloc (.cells #[.slice (some ⟨w'.heap.size, 0, none⟩) 1 1] 35)) (w'.heap.size + 1) [.slice (some ⟨w'.heap.size, 0, none⟩) 1 1] 35 := Row.new (by simp)
              have hZ3 : Row ((w'.alloc (.cells #[.int .i64 at_, .int .i64 k] 44)).alloc (.cells #[.slice (some ⟨w'.heap.size, 0, none⟩) 1 1] 35)) (w.heap.size + 1) [.slice none 0 0] 35 := (HR2.out.2.alloc _).alloc _
              have hZB : Below w'.heap.size w' ((w'.alloc (.cells #[.int .i64 at_, .int .i64 k] 44)).alloc (.cells #[.slice (some ⟨w'.heap.size, 0, none⟩) 1 1] 35)) := ((Below.refl _ _).alloc (Nat.le_refl _) _).alloc (by simp) _
              have hZS := hZ2.lt
              clear p0 p4 p4f pc
              generalize ((w'.alloc (.cells #[.int .i64 at_, .int .i64 k] 44)).alloc (.cells #[.slice (some ⟨w'.heap.size, 0, none⟩) 1 1] 35)) = wz at hZ1 hZ2 hZ3 hZB hZS ⊢
              have HZ := hid (⟨hZ1, hZ2, hZ3⟩ : _ ∧ _ ∧ _)
              have HZBB := hid hZB
              have p1 := hZ2.cell 0
              have p1f := hZ2.free 0
              have p2 := hZ3.cell 0
              have p2f := hZ3.free 0
              clear hZ1 hZ2 hZ3 hZB
              obtain ⟨bz, hbz⟩ : ∃ bz, bz = w'.heap.size := ⟨_, rfl⟩
              rw [← hbz] at HZ p1 p1f hZS ⊢
              have hbb : w.heap.size + 1 < bz := by omega
              have HBZ := hid hbz
              clear hbz
              by_cases hl0 : l = []
              · subst hl0
                rcases HSL.out with ⟨-, e⟩ | ⟨h0, -⟩
                · injection e with e1 _ e3
                  subst e1; subst e3
                  simp only [List.length_nil] at *
                  go_wp2_with fail
                  refine bodyPost_ret (results_cell_tmp rfl _ _ (w.heap.size + 1) _ _ _ _ rfl (show _ = some (Obj.cells (List.toArray _) _) from (HZ.out.2.2.other (B' := bz + 1) (by have := HBZ.out; omega) _ _).set 0 _) Try.underlying35 rfl (by kernel_rfl)) rfl ?_
                  exact HFIN.out (wz.setCell ⟨bz + 1, 0, none⟩ (.slice (some ⟨bz, 0, none⟩) 1 1)) (some ⟨bz, 0, none⟩) 1 1 rfl (HZBB.out.setCell (by rw [HBZ.out]; simp) _) (.inr ⟨by simp, bz, 1, [], rfl, by have := HBZ.out; omega, HZ.out.1.other (by omega) _ _⟩)
                · exact absurd rfl h0
              · have hpos : 0 < l.length := List.length_pos_iff.2 hl0
                rcases HSL.out with ⟨h0, -⟩ | ⟨-, sb, sc, more, e, -, hsr⟩
                · exact absurd h0 hl0
                injection e with e1 _ e3
                have HSR := hid (hsr.below HZBB.out hsr.lt)
                subst e1
                clear hsr e3
                go_wp2_with (at_builtin; refine wpList_append_row rfl _ _ 33 rfl w'.heap.size 44 i0 (.agg #[.int .i64 0, .int .i64 0]) 2 16 Try.underlying33 hi hz0 hz1 hz2 rfl (by decide) _ 1 [.int .i64 at_, .int .i64 k] rfl ?c0 ⟨sb, 0, none⟩ l.length vc (spc l) rfl (spc_length l) ?c1 ?c2 ?c3 ?c4 ?c5 hpos ?_)
                case c0 => exact HZ.out.1.own2 (by have := HBZ.out; omega) rfl (by unfold maxLen; omega)
                case c1 =>
                  intro j u hj
                  first | rw [Addr.add_lit, Nat.zero_add] | skip
                  rw [HSR.out.cell j]
                  exact List.getElem?_append_left (List.getElem?_eq_some_iff.1 hj).1 ▸ hj
                case c2 => exact spc_one l
                all_goals first | (show 1 + l.length ≤ maxLen; unfold maxLen; omega) | (show w'.heap.size ≤ _; have := HBZ.out; omega) | (show _ * 16 ≤ _; omega) | skip
                intro a2 c2 w3 hown hgrow hnw
                have hb3 : Below w'.heap.size w' w3 := HZBB.out.grown hgrow (by have := HBZ.out; omega) (fun g hg => by simp [Value.ownBlock] at hg; have := HBZ.out; omega)
                have hs3 : SpB (w.heap.size ≤ ·) w3 (.slice a2 (1 + l.length) c2) (((at_ : Int), (k : Int)) :: l) := (SpB.own (sp := ((at_ : Int), (k : Int)) :: l) hown (by simp; omega) (by simp)).mono (fun b _ hb => by omega)
                have hr4 : Row w3 (bz + 1) [.slice (some ⟨bz, 0, none⟩) 1 1] 35 := HZ.out.2.1.grownOwn (HZ.out.1.own2 (base := 0) (n := 1) (m := 2) (Nat.zero_le _) rfl (by unfold maxLen; omega)) (by decide) hgrow
                have hr5 : Row w3 (w.heap.size + 1) [.slice none 0 0] 35 := HZ.out.2.2.grownOwn (HZ.out.1.own2 (base := 0) (n := 1) (m := 2) (Nat.zero_le _) rfl (by unfold maxLen; omega)) (by decide) hgrow
                have hs4 : SpB (w.heap.size ≤ ·) (w3.setCell ⟨bz + 1, 0, none⟩ (.slice a2 (1 + l.length) c2)) (.slice a2 (1 + l.length) c2) (((at_ : Int), (k : Int)) :: l) := by
                  rcases hs3 with ⟨h0, -⟩ | ⟨h0, b, c, more, e, hb, hr⟩
                  · cases h0
                  · exact .inr ⟨h0, b, c, more, e, hb, hr.other (fun e2 => by subst e2; exact absurd (hr.typed hr4) (by decide)) _ _⟩
                have HR3 := hid (⟨hr4, hr5⟩ : _ ∧ _)
                have HFF := hid (HFIN.out (w3.setCell ⟨bz + 1, 0, none⟩ (.slice a2 (1 + l.length) c2)) a2 c2 (1 + l.length) (by omega) (hb3.setCell (by rw [HBZ.out]; simp) _) hs4)
                have p5 := hr4.cell 0
                have p5f := hr4.free 0
                have p6 := hr5.cell 0
                have p6f := hr5.free 0
                clear hown hgrow hnw hb3 hs3 p1 p1f p2 p2f hr4 hr5 hs4
                go_wp2_with fail
                refine bodyPost_ret (results_cell_tmp rfl _ _ (w.heap.size + 1) _ _ _ _ rfl (show _ = some (Obj.cells (List.toArray _) _) from (HR3.out.2.other (B' := bz + 1) (by have := HBZ.out; omega) _ _).set 0 _) Try.underlying35 rfl (by kernel_rfl)) rfl ?_
                exact HFF.out
            | fail =>
              simp only [Out.isFound]
              go_wp2_with fail
              refine ⟨⟨(k : Int) - 1, d, false, by go_num, by have := HK.out; omega, by omega, HR2.out, HSP2.out, HBW2.out, fun _ => ⟨m, ?_, HS3.out, fun o2 m2 he => ?_⟩, fun e => (by cases e)⟩, ?_⟩
              · have := (Ev.left C.str C.lines HE.out).1; have := hM'.out; omega
              · exact HX.out.2.2.2.2.2 _ _ (.miss (by have h9 := HE.out; rw [HK.out] at h9; exact h9) he)
              · simp [intOf]; omega
            | over =>
              simp only [Out.isFound]
              go_wp2_with fail
              have h0 := (Ev.left C.str C.lines HE.out).2 rfl
              subst h0
              refine ⟨⟨(k : Int) - 1, d, true, by go_num, by have := HK.out; omega, by omega, HR2.out, HSP2.out, HBW2.out, fun e => (by cases e), fun _ => ⟨HS3.out, ?_⟩⟩, ?_⟩
              · exact HX.out.2.2.2.2.2 _ _ (.over (by have h9 := HE.out; rw [HK.out] at h9; exact h9))
              · simp [intOf]; omega
end Go.Proofs.Ytnnocekencaadaa
