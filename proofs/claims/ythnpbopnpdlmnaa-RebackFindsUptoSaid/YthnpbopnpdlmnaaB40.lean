/- Reback: the walk of a search at an offset. -/
import Derived.Test.YthnpbopnpdlmnaaB39
import Derived.Deep.DeepCutAuto
import Derived.Deep.CutBlock
import Derived.Laws.EntriesVeiled
namespace Go.Proofs.Ythnpbopnpdlmnaa
open Go.RowKit
attribute [local go_sem] gives givesUpon
variable {C : Ctx}

/-- What the loop over ends keeps. -/
def AtL (C : Ctx) (w : World) (n : Nat) (e : Re) (at_ : Nat) (BXL : List Value) (c : Nat) (ov : Bool) (wr : World) : Prop :=
  (Row wr w.heap.size BXL 28 ∧ Row wr (w.heap.size + 1) [.slice none 0 0] 43) ∧ But [C.M] w wr ∧
  (ov = false → ∃ n', n' ≤ n ∧ Rest C n' false wr ∧ ∀ o m, EvAt C.str C.lines e C.N at_ c n' o m → EvAt C.str C.lines e C.N at_ (C.s.size + 1 - at_) n o m) ∧ (ov = true → Rest C 0 true wr ∧ EvAt C.str C.lines e C.N at_ (C.s.size + 1 - at_) n .over 0)

set_option maxRecDepth 100000 in
set_option maxHeartbeats 16000000 in
theorem at_any (w : World) (n : Nat) (p : Pay) (xs : List Re) (ad : Option Addr) (cp at_ : Nat) (hin : (Re.mk p xs).In C.w0 [.int .i64 p.op, .int .u64 p.set.a, .int .u64 p.set.b, .int .u64 p.set.c, .int .u64 p.set.d, .int .i64 p.lo, .int .i64 p.hi, .int .i64 p.gr, .slice ad xs.length cp]) (hok : (Re.mk p xs).ok C.N) (hat : at_ ≤ C.s.size) (h : Rest C n false w) :
    Calls Try.prog 61 #[.pointer (some ⟨C.M, 0, none⟩), .agg #[.int .i64 p.op, .int .u64 p.set.a, .int .u64 p.set.b, .int .u64 p.set.c, .int .u64 p.set.d, .int .i64 p.lo, .int .i64 p.hi, .int .i64 p.gr, .slice ad xs.length cp], .int .i64 at_, .int .i64 C.N] w (AtPost C (EvAt C.str C.lines (.mk p xs) C.N at_ (C.s.size + 1 - at_) n) w) := by
  have R0 : Row ((w.alloc (.cells #[.int .i64 p.op, .int .u64 p.set.a, .int .u64 p.set.b, .int .u64 p.set.c, .int .u64 p.set.d, .int .i64 p.lo, .int .i64 p.hi, .int .i64 p.gr, .slice ad xs.length cp] 28)).alloc (.cells #[.slice none 0 0] 43)) w.heap.size [.int .i64 p.op, .int .u64 p.set.a, .int .u64 p.set.b, .int .u64 p.set.c, .int .u64 p.set.d, .int .i64 p.lo, .int .i64 p.hi, .int .i64 p.gr, .slice ad xs.length cp] 28 := (Row.new rfl).alloc _
  have R1 : Row ((w.alloc (.cells #[.int .i64 p.op, .int .u64 p.set.a, .int .u64 p.set.b, .int .u64 p.set.c, .int .u64 p.set.d, .int .i64 p.lo, .int .i64 p.hi, .int .i64 p.gr, .slice ad xs.length cp] 28)).alloc (.cells #[.slice none 0 0] 43)) (w.heap.size + 1) [.slice none 0 0] 43 := Row.new (by simp)
  have hB : Below w.heap.size w ((w.alloc (.cells #[.int .i64 p.op, .int .u64 p.set.a, .int .u64 p.set.b, .int .u64 p.set.c, .int .u64 p.set.d, .int .i64 p.lo, .int .i64 p.hi, .int .i64 p.gr, .slice ad xs.length cp] 28)).alloc (.cells #[.slice none 0 0] 43)) := ((Below.refl w.heap.size w).alloc (Nat.le_refl _) _).alloc (by simp) _
  have HRR := hid (⟨R0, R1⟩ : _ ∧ _)
  have HB := hid hB
  have q0 := R0.c9
  have qc := (h.later hB).c
  have HP := hid h
  have HIN := hid hin
  have HOK := hid hok
  have hlen := h.len
  have hfew := h.few
  clear h hin hok hB R0 R1
  go_enter Try.func61, Try.ntmps61
  go_wp2_with fail
  go_loopw [10] (fun v wr => ∃ (J : Int) (c : Nat) (ov : Bool), v = .int .i64 J ∧ J = (at_ : Int) + c - 1 ∧ c ≤ C.s.size + 1 - at_ ∧ Hid (AtL C w n (.mk p xs) at_ [.int .i64 p.op, .int .u64 p.set.a, .int .u64 p.set.b, .int .u64 p.set.c, .int .u64 p.set.d, .int .i64 p.lo, .int .i64 p.hi, .int .i64 p.gr, .slice ad xs.length cp] c ov wr)) (fun v _ => (intOf v + 1 - at_).toNat)
  case atStart =>
    exact ⟨(C.s.size : Int), C.s.size + 1 - at_, false, rfl, by omega, Nat.le_refl _, ⟨HRR.out, But.of_below HB.out, fun _ => ⟨n, Nat.le_refl _, HP.out.later HB.out, fun o m he => he⟩, fun e => by cases e⟩⟩
  case round =>
    obtain ⟨J, c, ov, rfl, hJ, hc, HL⟩ := hrel
    cases ov with
    | true =>
      obtain ⟨⟨r0, r1⟩, hbut, -, hov⟩ := HL.out
      obtain ⟨hst, hev⟩ := hov rfl
      have p0 := r0.c9
      have pc := hst.c
      have p1 := r1.cell 0
      have pf := r1.free 0
      have HX := hid (⟨r1, hbut, hst, hev⟩ : _ ∧ _ ∧ _ ∧ _)
      clear r0 r1 hbut hov hst hev HL q0 qc
      by_cases hJi : (at_ : Int) ≤ J
      · have d2 : decide ((at_ : Int) ≤ J) = true := by simp [hJi]
        clear hJ
        go_wp2_with fail
        refine bodyPost_ret (results_cell_tmp rfl _ _ (w.heap.size + 1) _ _ _ _ rfl (show _ = some (Obj.cells (List.toArray _) _) from HX.out.1.set 0 (.slice none 0 0)) Try.underlying43 rfl (by kernel_rfl)) rfl ?_
        exact ⟨.over, 0, _, HX.out.2.2.2, rfl, HX.out.2.2.1.put HX.out.1 (by decide) (by decide) (by have := HP.out.below.size; omega) 0 _, HX.out.2.1.setCell (.inr (by simp)) _, fun l hl => (by cases hl), fun _ => rfl⟩
      · have d2 : decide ((at_ : Int) ≤ J) = false := by simp [hJi]
        clear hJ
        go_wp2_with fail
        refine bodyPost_ret (results_cell_tmp rfl _ _ (w.heap.size + 1) _ _ _ _ rfl (show _ = some (Obj.cells (List.toArray _) _) from HX.out.1.set 0 (.slice none 0 0)) Try.underlying43 rfl (by kernel_rfl)) rfl ?_
        exact ⟨.over, 0, _, HX.out.2.2.2, rfl, HX.out.2.2.1.put HX.out.1 (by decide) (by decide) (by have := HP.out.below.size; omega) 0 _, HX.out.2.1.setCell (.inr (by simp)) _, fun l hl => (by cases hl), fun _ => rfl⟩
    | false =>
      obtain ⟨⟨r0, r1⟩, hbut, hpr, -⟩ := HL.out
      obtain ⟨m', hm', hst, hrest⟩ := hpr rfl
      have p0 := r0.c9
      have pc := hst.c
      have p1 := r1.cell 0
      have pf := r1.free 0
      cases c with
      | zero =>
        have HX := hid (⟨r1, hbut, hst, hrest _ _ .none⟩ : _ ∧ _ ∧ _ ∧ _)
        have d2 : decide ((at_ : Int) ≤ J) = false := by simp; omega
        have d3 : ¬ (at_ : Int) ≤ J := by omega
        clear r0 r1 hbut hpr hst hrest HL q0 qc hJ
        go_wp2_with fail
        refine bodyPost_ret (results_cell_tmp rfl _ _ (w.heap.size + 1) _ _ _ _ rfl (show _ = some (Obj.cells (List.toArray _) _) from HX.out.1.set 0 (.slice none 0 0)) Try.underlying43 rfl (by kernel_rfl)) rfl ?_
        exact ⟨.fail, m', _, HX.out.2.2.2, rfl, HX.out.2.2.1.put HX.out.1 (by decide) (by decide) (by have := HP.out.below.size; omega) 0 _, HX.out.2.1.setCell (.inr (by simp)) _, fun l hl => (by cases hl), fun _ => rfl⟩
      | succ c =>
        obtain ⟨k, hk⟩ : ∃ k : Nat, k = at_ + c := ⟨_, rfl⟩
        obtain rfl : J = (k : Int) := by omega
        have hak : at_ ≤ k := by omega
        have hks : k ≤ C.s.size := by omega
        have HK := hid hk
        have HX := hid (⟨r0, r1, hbut, hst, hrest⟩ : _ ∧ _ ∧ _ ∧ _ ∧ _)
        have RG : Row (wr.alloc (.cells #[.slice none 0 0] 38)) wr.heap.size [.slice none 0 0] 38 := Row.new rfl
        have hWG : Below wr.heap.size wr (wr.alloc (.cells #[.slice none 0 0] 38)) := (Below.refl _ _).alloc (Nat.le_refl _) _
        have HWG := hid (⟨RG, hWG⟩ : _ ∧ _)
        have HC := hid (fun (x : World) (hx : Grow ((wr.alloc (.cells #[.slice none 0 0] 38))).drew x) => (r0.alloc (.cells #[.slice none 0 0] 38)).grow hx |>.c9)
        have HNO := hid (fun (x : World) => none_any x C.N hfew)
        have hM' := hid hm'
        clear r0 r1 hbut hpr hst hrest HL q0 qc hJ hk RG hWG
        go_wp2_with fail
        refine wp_region_inv 8 (Grow) (by kernel_rfl) (by kernel_rfl) (Grow.refl) (fun _ _ _ => Grow.trans) ?_
        simp only [fill, dstOf, Act.put, List.take_succ_cons, List.take_zero, List.getElem?_toArray, List.getElem?_cons_zero, List.getElem?_cons_succ, Option.bind_some, List.setIfInBounds_toArray, List.set_cons_zero, List.set_cons_succ]
        refine Plan.det 1 rfl (Grow.refl) ?_
        apply Exists.intro
        refine ⟨fun vs x hR hF K hK => ?_, ?_⟩
        · clear hF
          go_simp
          exact hK _ _ (Grow.refl _) rfl
        refine Plan.det 2 rfl (Grow.refl) ?_
        apply Exists.intro
        refine ⟨fun vs x hR hF K hK => ?_, ?_⟩
        · have hc := HC.out x hR; clear hF
          go_simp
          exact hK _ _ (Grow.refl _) rfl
        refine Plan.det 3 rfl (Grow.refl) ?_
        apply Exists.intro
        refine ⟨fun vs x hR hF K hK => ?_, ?_⟩
        · clear hF
          go_simp
          exact hK _ _ (Grow.refl _) rfl
        refine Plan.det 4 rfl (Grow.refl) ?_
        apply Exists.intro
        refine ⟨fun vs x hR hF K hK => ?_, ?_⟩
        · clear hF
          go_simp
          exact hK _ _ (Grow.refl _) rfl
        refine Plan.det 5 rfl (Grow.refl) ?_
        apply Exists.intro
        refine ⟨fun vs x hR hF K hK => ?_, ?_⟩
        · clear hF
          go_simp
          exact hK _ _ (Grow.refl _) rfl
        refine Plan.rel 6 rfl (Grow.refl) (fun v y => ∃ (a : Option Addr) (c2 : Nat), v = .slice a C.N c2 ∧ SpB (wr.heap.size + 1 ≤ ·) y (.slice a C.N c2) (unsetAll C.N)) (fun v a b hR ⟨a1, c1, h1, h2⟩ => ⟨a1, c1, h1, h2.below hR⟩) (fun vs x hR hF K hK => ?_) ?_
        · have f4 := hF 0 _ _ rfl rfl
          go_simp
          refine (HNO.out x).mono ?_
          rintro e x1 ⟨a, c2, rfl, hbe, h1⟩
          exact ⟨_, rfl, hK _ _ hbe ⟨a, c2, rfl, h1.mono (fun b _ h2 => by have := (grow_below hR).size; simp at this; omega)⟩⟩
        refine Plan.det 7 rfl (Grow.refl) ?_
        apply Exists.intro
        refine ⟨fun vs x hR hF K hK => ?_, ?_⟩
        · clear hF
          go_simp
          exact hK _ _ (Grow.refl _) rfl
        refine Plan.rel 8 rfl (Grow.refl) (fun v y => ∃ (a : Option Addr) (c2 : Nat), v = .agg #[.int .i64 p.op, .int .u64 p.set.a, .int .u64 p.set.b, .int .u64 p.set.c, .int .u64 p.set.d, .int .i64 p.lo, .int .i64 p.hi, .int .i64 p.gr, .slice ad xs.length cp, .int .i64 at_, .int .i64 k, .slice a C.N c2, .func (.func 88) #[] #[.pointer (some ⟨wr.heap.size, 0, none⟩)]] ∧ SpB (wr.heap.size + 1 ≤ ·) y (.slice a C.N c2) (unsetAll C.N)) (fun v a b hR ⟨a1, c1, h1, h2⟩ => ⟨a1, c1, h1, h2.below hR⟩) (fun vs x hR hF K hK => ?_) ?_
        · have f1 := hF 5 _ _ rfl rfl; have f2 := hF 4 _ _ rfl rfl; have f3 := hF 3 _ _ rfl rfl; have f5 := hF 1 _ _ rfl rfl; have f6 := hF 0 _ _ rfl rfl
          obtain ⟨a, c2, e9, h9⟩ := f5
          simp only [e9] at *
          go_simp
          exact hK _ _ (Grow.refl _) ⟨a, c2, rfl, h9⟩
        refine Plan.nil (fun vs x hR hF => ?_)
        have f0 := hF 7 _ _ rfl; have f1 := hF 6 _ _ rfl; have f2 := hF 5 _ _ rfl; have f3 := hF 4 _ _ rfl; have f4 := hF 3 _ _ rfl; have f5 := hF 2 _ _ rfl; have f6 := hF 1 _ _ rfl; have f7 := hF 0 _ _ rfl
        clear hF
        simp only [f0, f1, f2, f3, f4, f6]
        clear f0 f1 f2 f3 f4 f6
        simp only [List.drop_succ_cons, List.drop_zero]
        have hbx := grow_below hR
        have HBX : Hid (Below wr.heap.size wr x) := HWG.out.2.trans (hbx.mono (by simp))
        obtain ⟨a9, c9, e7, h7⟩ := f7
        have HSP := hid h7
        have HGX := hid (HWG.out.1.below hbx (by simp))
        have HRX := hid (HX.out.2.2.2.1.later HBX.out)
        have HST := hid (HRX.out.st HGX.out (by have := HX.out.2.2.2.1.below.size; exact this))
        clear f5 h7 HC hR HNO hbx
        simp only [e7]
        have hul : (unsetAll C.N).length = C.N := by simp [unsetAll]
        have HPX : Hid (Pre (C.on wr.heap.size) m' (C.B - m' + 1) (unsetAll C.N) .done (.slice a9 C.N c9) (.func (.func 88) #[] #[.pointer (some ⟨wr.heap.size, 0, none⟩)]) x) := by
          refine ⟨HST.out, HSP.out.mono (fun b _ hb hm => ?_), ⟨hul, fun y hy => .inl (List.mem_replicate.1 hy).2⟩, .done, trivial⟩
          have h1 := HX.out.2.2.2.1.m.lt
          rcases List.mem_cons.1 hm with e | hm
          · rw [e] at hb; dsimp only at hb; omega
          · have e := List.mem_singleton.1 hm; rw [e] at hb; dsimp only at hb; omega
        clear hul p0 pc p1 pf
        go_wp2_with fail
        refine ((try_all (C := C.on wr.heap.size) m').lit _ (.mk p xs) p ad xs.length cp at_ k (unsetAll C.N) .done _ _ HIN.out HOK.out hak hks HPX.out).mono ?_
        rintro e w' ⟨o', m, h1, rfl, h3, h4, h5⟩
        have HE := hid h1
        have HS3 := hid (Rest.of h3)
        have HG3 := hid h3.g
        have HBW : Hid (But [C.M] wr w') := (But.of_below HBX.out).later h4 (fun i hi => by
          rcases List.mem_cons.1 hi with e | hi
          · exact .inl (by rw [e]; simp)
          · have e := List.mem_singleton.1 hi; exact .inr (by rw [e]; exact Nat.le_refl _))
        have HR2 := hid (⟨HX.out.1.but HBW.out (HX.out.2.2.2.1.nM HX.out.1 (by decide)), HX.out.2.1.but HBW.out (HX.out.2.2.2.1.nM HX.out.2.1 (by decide))⟩ : Row w' _ _ _ ∧ Row w' _ _ _)
        have HBW2 := hid (HX.out.2.2.1.trans HBW.out)
        have hkw : IntKind.i64.wrap ((k : Int) - 1) = (k : Int) - 1 := by rw [IntKind.wrap_i64]; omega
        have hsz := HR2.out.2.lt
        cases o' with
        | found l =>
          obtain ⟨hso, v, hv1, hv2⟩ := h5 l rfl
          obtain ⟨va, vc, rfl⟩ := hv2.form
          have p3 := hv1.cell 0
          have hgl := hv1.lt
          dsimp only at hgl p3
          have p4 := HR2.out.2.cell 0
          have p4f := HR2.out.2.free 0
          have HSL := hid hv2
          have hll := hso.1
          have hwr := HX.out.2.2.1.size
          have hl9 : l.length ≤ 9 := by rw [hll]; exact hfew
          clear h1 h3 h4 h5 hso hv1 hv2 hll
          simp only [Out.isFound]
          obtain ⟨i0, hi, hz0, hz1, hz2⟩ := info_parts info_span
          have HE2 : Hid (EvAt C.str C.lines (.mk p xs) C.N at_ (C.s.size + 1 - at_) n (.found (((at_ : Int), (k : Int)) :: l)) m) := HX.out.2.2.2.2 _ _ (by have h9 := HE.out; rw [HK.out] at h9 ⊢; exact .hit h9)
          have HFIN : Hid (∀ (w3 : World) (a2 : Option Addr) (c2 n2 : Nat), n2 = l.length + 1 → Below w'.heap.size w' w3 → SpB (w.heap.size ≤ ·) w3 (.slice a2 n2 c2) (((at_ : Int), (k : Int)) :: l) → AtPost C (EvAt C.str C.lines (.mk p xs) C.N at_ (C.s.size + 1 - at_) n) w (.returned (.tuple #[.agg #[.slice a2 n2 c2], .bool true])) (w3.setCell ⟨w.heap.size + 1, 0, none⟩ (.slice a2 n2 c2))) := by
            intro w3 a2 c2 n2 hn2 hb3 hs3
            have hr3 := HR2.out.2.below hb3 HR2.out.2.lt
            refine ⟨.found _, m, _, HE2.out, rfl, (HS3.out.later hb3).put hr3 (by decide) (by decide) (by have := HP.out.below.size; omega) 0 _, (HBW2.out.trans (But.of_below hb3)).setCell (.inr (by simp)) _, fun l' hl' => ?_, fun h => (by cases h)⟩
            injection hl' with hl'
            subst hl'
            rcases hs3 with ⟨h0, -⟩ | ⟨h0, b, c, more, e, hb, hr⟩
            · cases h0
            · refine .inr ⟨h0, b, c, more, e, hb, hr.other (fun e2 => ?_) _ _⟩
              subst e2
              exact absurd (hr.typed hr3) (by decide)
          by_cases hl0 : l = []
          · subst hl0
            rcases HSL.out with ⟨-, e⟩ | ⟨h0, -⟩
            · injection e with e1 _ e3
              subst e1; subst e3
              simp only [List.length_nil] at *
              go_wp2_with fail
              refine bodyPost_ret (results_cell_tmp rfl _ _ (w.heap.size + 1) _ _ _ _ rfl (show _ = some (Obj.cells (List.toArray _) _) from (HR2.out.2.set 0 _).alloc _) Try.underlying43 rfl (by kernel_rfl)) rfl ?_
              have hz := HFIN.out (w'.alloc (.cells #[.int .i64 at_, .int .i64 k] 47)) (some ⟨w'.heap.size, 0, none⟩) 1 1 rfl ((Below.refl _ _).alloc (Nat.le_refl _) _) (.inr ⟨by simp, w'.heap.size, 1, [], rfl, by omega, Row.new rfl⟩)
              rw [World.setCell_alloc_past _ _ _ _ (by omega)] at hz
              exact hz
            · exact absurd rfl h0
          · have hpos : 0 < l.length := List.length_pos_iff.2 hl0
            rcases HSL.out with ⟨h0, -⟩ | ⟨-, sb, sc, more, e, -, hsr⟩
            · exact absurd h0 hl0
            injection e with e1 _ e3
            have HSR := hid hsr
            subst e1
            clear hsr e3
            go_wp2_with (at_builtin; refine wpList_append_row rfl _ _ 38 rfl w'.heap.size 47 i0 (.agg #[.int .i64 0, .int .i64 0]) 2 16 Try.underlying38 hi hz0 hz1 hz2 rfl (by decide) _ 1 [.int .i64 at_, .int .i64 k] rfl ?c0 ⟨sb, 0, none⟩ l.length vc (spc l) rfl (spc_length l) ?c1 ?c2 ?c3 ?c4 ?c5 hpos ?_)
            case c0 => exact World.ownsRow_lit w' #[.int .i64 at_, .int .i64 k] 1 (Nat.le_refl _) (by unfold maxLen; omega) rfl
            case c1 =>
              intro j u hj
              first | rw [Addr.add_lit, Nat.zero_add] | skip
              rw [(HSR.out.alloc _).cell j]
              exact List.getElem?_append_left (List.getElem?_eq_some_iff.1 hj).1 ▸ hj
            case c2 => exact spc_one l
            all_goals first | (show 1 + l.length ≤ maxLen; unfold maxLen; omega) | (show w'.heap.size ≤ _; simp; done) | (show _ * 16 ≤ _; omega) | skip
            intro a2 c2 w3 hown hgrow hnw
            have hb3 : Below w'.heap.size w' w3 := ((Below.refl w'.heap.size w').alloc (Nat.le_refl _) _).grown hgrow (by simp) (fun g hg => by simp [Value.ownBlock] at hg; omega)
            have hs3 : SpB (w.heap.size ≤ ·) w3 (.slice a2 (1 + l.length) c2) (((at_ : Int), (k : Int)) :: l) := (SpB.own (sp := ((at_ : Int), (k : Int)) :: l) hown (by simp; omega) (by simp)).mono (fun b _ hb => by omega)
            have HR3 := hid (HR2.out.2.below hb3 HR2.out.2.lt)
            have HFF := hid (HFIN.out w3 a2 c2 (1 + l.length) (by omega) hb3 hs3)
            have p5 := HR3.out.cell 0
            have p5f := HR3.out.free 0
            clear hown hgrow hnw hb3 hs3 p3 p4 p4f
            go_wp2_with fail
            refine bodyPost_ret (results_cell_tmp rfl _ _ (w.heap.size + 1) _ _ _ _ rfl (show _ = some (Obj.cells (List.toArray _) _) from HR3.out.set 0 _) Try.underlying43 rfl (by kernel_rfl)) rfl ?_
            exact HFF.out
        | fail =>
          simp only [Out.isFound]
          clear h1 h3 h4 h5
          go_wp2_with fail
          refine ⟨⟨(k : Int) - 1, c, false, by go_num, by have := HK.out; omega, by omega, HR2.out, HBW2.out, fun _ => ⟨m, ?_, HS3.out, fun o2 m2 he => ?_⟩, fun e => (by cases e)⟩, ?_⟩
          · have := (Ev.left C.str C.lines HE.out).1; have := hM'.out; omega
          · exact HX.out.2.2.2.2 _ _ (.miss (by have h9 := HE.out; rw [HK.out] at h9; exact h9) he)
          · simp [intOf]; omega
        | over =>
          simp only [Out.isFound]
          clear h1 h3 h4 h5
          go_wp2_with fail
          have h0 := (Ev.left C.str C.lines HE.out).2 rfl
          subst h0
          refine ⟨⟨(k : Int) - 1, c, true, by go_num, by have := HK.out; omega, by omega, HR2.out, HBW2.out, fun e => (by cases e), fun _ => ⟨HS3.out, ?_⟩⟩, ?_⟩
          · exact HX.out.2.2.2.2 _ _ (.over (by have h9 := HE.out; rw [HK.out] at h9; exact h9))
          · simp [intOf]; omega
end Go.Proofs.Ythnpbopnpdlmnaa

/- Reback: a new search. -/
namespace Go.Proofs.Ythnpbopnpdlmnaa
open Go.RowKit
attribute [local go_sem] gives givesUpon

theorem Row.f14 {w : World} {B : Nat} {cs : List Value} {T : TypeId} (h : Row w B cs T) : w.frozen? ⟨B, 5, none⟩ = false ∧ w.frozen? ⟨B, 6, none⟩ = false ∧ w.frozen? ⟨B, 7, none⟩ = false ∧ w.frozen? ⟨B, 8, none⟩ = false ∧ w.frozen? ⟨B, 9, none⟩ = false ∧ w.frozen? ⟨B, 10, none⟩ = false ∧ w.frozen? ⟨B, 11, none⟩ = false ∧ w.frozen? ⟨B, 12, none⟩ = false ∧ w.frozen? ⟨B, 13, none⟩ = false :=
  ⟨h.free 5, h.free 6, h.free 7, h.free 8, h.free 9, h.free 10, h.free 11, h.free 12, h.free 13⟩
theorem Row.k14 {w : World} {B : Nat} {a b c d e f0 f1 f2 f3 f4 f5 f6 f7 f8 : Value} {T : TypeId} (h : Row w B [a, b, c, d, e, f0, f1, f2, f3, f4, f5, f6, f7, f8] T) : w.cell? ⟨B, 5, none⟩ = some f0 ∧ w.cell? ⟨B, 6, none⟩ = some f1 ∧ w.cell? ⟨B, 7, none⟩ = some f2 ∧ w.cell? ⟨B, 8, none⟩ = some f3 ∧ w.cell? ⟨B, 9, none⟩ = some f4 ∧ w.cell? ⟨B, 10, none⟩ = some f5 ∧ w.cell? ⟨B, 11, none⟩ = some f6 ∧ w.cell? ⟨B, 12, none⟩ = some f7 ∧ w.cell? ⟨B, 13, none⟩ = some f8 :=
  ⟨h.cell 5, h.cell 6, h.cell 7, h.cell 8, h.cell 9, h.cell 10, h.cell 11, h.cell 12, h.cell 13⟩
set_option maxRecDepth 100000 in
set_option maxHeartbeats 8000000 in
theorem begin_any (w w0 : World) (s : ByteArray) (lines : Bool) (budget : Int) (B N G : Nat) (hB : max budget 0 = (B : Int)) :
    Calls Try.prog 59 #[.string s, .bool lines, .int .i64 budget] w fun e w' => e = .returned (.pointer (some ⟨w.heap.size, 0, none⟩)) ∧ Row w' w.heap.size ((⟨w0, w.heap.size, w.heap.size + 1, G, N, B, s, lines⟩ : Ctx).cells 0 false) 115 ∧ Row w' (w.heap.size + 1) [.pointer (some ⟨w.heap.size, 0, none⟩)] 109 ∧ Below w.heap.size w w' := by
  have key : ∀ b0 : Int, ∀ W : World, W = ((w.alloc (.cells #[.string s, .bool lines, .int .i64 0, .int .i64 b0, .bool false, .nilFunc, .nilFunc, .nilFunc, .nilFunc, .nilFunc, .nilFunc, .nilFunc, .nilFunc, .nilFunc] 115)).alloc (.cells #[.pointer (some ⟨w.heap.size, 0, none⟩)] 109)) → Row W w.heap.size [.string s, .bool lines, .int .i64 0, .int .i64 b0, .bool false, .nilFunc, .nilFunc, .nilFunc, .nilFunc, .nilFunc, .nilFunc, .nilFunc, .nilFunc, .nilFunc] 115 ∧ Row W (w.heap.size + 1) [.pointer (some ⟨w.heap.size, 0, none⟩)] 109 ∧ Below w.heap.size w W := by
    intro b0 W e
    subst e
    exact ⟨(Row.new rfl).alloc _, Row.new (by simp), ((Below.refl _ w).alloc (Nat.le_refl _) _).alloc (by simp) _⟩
  have HB := hid hB
  clear hB
  by_cases hneg : budget < 0
  · go_enter Try.func59, Try.ntmps59
    go_upto_region 2 with fail
    have hk := key 0 _ rfl
    have hbb : Hid (0 = (B : Int)) := by show _ = _; have := HB.out; omega
    clear key
    generalize ((w.alloc (.cells #[.string s, .bool lines, .int .i64 0, .int .i64 0, .bool false, .nilFunc, .nilFunc, .nilFunc, .nilFunc, .nilFunc, .nilFunc, .nilFunc, .nilFunc, .nilFunc] 115)).alloc (.cells #[.pointer (some ⟨w.heap.size, 0, none⟩)] 109)) = W at *
    obtain ⟨h1, h2, h3⟩ := hk
    have q1 := h1.f14
    have q2 := h1.k14
    have q3 := h2.cell 0
    have HX := hid (⟨h1, h2, h3⟩ : _ ∧ _ ∧ _)
    clear h1 h2 h3
    go_wp2_with fail
    go_ret
    obtain ⟨h1, h2, h3⟩ := HX.out
    refine ⟨rfl, ?_, ?_, ?_⟩
    · have := ((((((((h1.set 5 (.func (.func 75) #[] #[])).set 6 (.func (.func 76) #[] #[.pointer (some ⟨w.heap.size + 1, 0, none⟩)])).set 7 (.func (.func 79) #[] #[.pointer (some ⟨w.heap.size + 1, 0, none⟩)])).set 8 (.func (.func 81) #[.pointer (some ⟨w.heap.size, 0, none⟩)] #[])).set 9 (.func (.func 82) #[] #[.pointer (some ⟨w.heap.size + 1, 0, none⟩)])).set 10 (.func (.func 85) #[.pointer (some ⟨w.heap.size, 0, none⟩)] #[])).set 11 (.func (.func 77) #[] #[.pointer (some ⟨w.heap.size + 1, 0, none⟩)])).set 12 (.func (.func 78) #[] #[.pointer (some ⟨w.heap.size + 1, 0, none⟩)])).set 13 (.func (.func 86) #[.pointer (some ⟨w.heap.size, 0, none⟩)] #[])
      have hB0 : B = 0 := by have := hbb.out; omega
      rw [hB0]
      exact this
    · have hne : w.heap.size + 1 ≠ w.heap.size := by omega
      exact ((((((((h2.other hne _ _).other hne _ _).other hne _ _).other hne _ _).other hne _ _).other hne _ _).other hne _ _).other hne _ _).other hne _ _
    · exact ((((((((h3.setCell (Nat.le_refl _) _).setCell (Nat.le_refl _) _).setCell (Nat.le_refl _) _).setCell (Nat.le_refl _) _).setCell (Nat.le_refl _) _).setCell (Nat.le_refl _) _).setCell (Nat.le_refl _) _).setCell (Nat.le_refl _) _).setCell (Nat.le_refl _) _
  · go_enter Try.func59, Try.ntmps59
    go_upto_region 2 with fail
    have hk := key budget _ rfl
    have hbb : Hid (budget = (B : Int)) := by show _ = _; have := HB.out; omega
    clear key
    generalize ((w.alloc (.cells #[.string s, .bool lines, .int .i64 0, .int .i64 budget, .bool false, .nilFunc, .nilFunc, .nilFunc, .nilFunc, .nilFunc, .nilFunc, .nilFunc, .nilFunc, .nilFunc] 115)).alloc (.cells #[.pointer (some ⟨w.heap.size, 0, none⟩)] 109)) = W at *
    obtain ⟨h1, h2, h3⟩ := hk
    have q1 := h1.f14
    have q2 := h1.k14
    have q3 := h2.cell 0
    have HX := hid (⟨h1, h2, h3⟩ : _ ∧ _ ∧ _)
    clear h1 h2 h3
    go_wp2_with fail
    go_ret
    obtain ⟨h1, h2, h3⟩ := HX.out
    refine ⟨rfl, ?_, ?_, ?_⟩
    · have := ((((((((h1.set 5 (.func (.func 75) #[] #[])).set 6 (.func (.func 76) #[] #[.pointer (some ⟨w.heap.size + 1, 0, none⟩)])).set 7 (.func (.func 79) #[] #[.pointer (some ⟨w.heap.size + 1, 0, none⟩)])).set 8 (.func (.func 81) #[.pointer (some ⟨w.heap.size, 0, none⟩)] #[])).set 9 (.func (.func 82) #[] #[.pointer (some ⟨w.heap.size + 1, 0, none⟩)])).set 10 (.func (.func 85) #[.pointer (some ⟨w.heap.size, 0, none⟩)] #[])).set 11 (.func (.func 77) #[] #[.pointer (some ⟨w.heap.size + 1, 0, none⟩)])).set 12 (.func (.func 78) #[] #[.pointer (some ⟨w.heap.size + 1, 0, none⟩)])).set 13 (.func (.func 86) #[.pointer (some ⟨w.heap.size, 0, none⟩)] #[])
      rw [hbb.out] at this
      exact this
    · have hne : w.heap.size + 1 ≠ w.heap.size := by omega
      exact ((((((((h2.other hne _ _).other hne _ _).other hne _ _).other hne _ _).other hne _ _).other hne _ _).other hne _ _).other hne _ _).other hne _ _
    · exact ((((((((h3.setCell (Nat.le_refl _) _).setCell (Nat.le_refl _) _).setCell (Nat.le_refl _) _).setCell (Nat.le_refl _) _).setCell (Nat.le_refl _) _).setCell (Nat.le_refl _) _).setCell (Nat.le_refl _) _).setCell (Nat.le_refl _) _).setCell (Nat.le_refl _) _
end Go.Proofs.Ythnpbopnpdlmnaa
