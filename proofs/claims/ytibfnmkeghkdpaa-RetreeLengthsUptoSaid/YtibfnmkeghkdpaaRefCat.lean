/- The reference's cat and alt of lists of facts. -/
import Derived.Test.YtibfnmkeghkdpaaLearnGo
import Derived.Test.YtibfnmkeghkdpaaSame
namespace Go.Proofs.Ytibfnmkeghkdpaa
open Go.RowKit
attribute [local go_sem] gives givesUpon

theorem size_rfacts (a b c d e f g : Value) : (Try.prog.info? 69).map (·.size) = some [a, b, c, d, e, f, g].length := by show _ = some 7; kernel_rfl
theorem info_rfacts : (Try.prog.info? 69).map (fun i => (i.zero, i.size, i.bytes)) = some (some (.agg #[.bool false, .int .i64 0, .int .i64 0, .int .u64 0, .int .u64 0, .int .u64 0, .int .u64 0]), 7, 56) := by kernel_rfl

/-- The facts of l lie one behind the other at the address. -/
def FAt (w : World) (b o : Nat) (l : List Facts) : Prop := ∀ k f, l[k]? = some f → CellsAt w b (o + k * 7) f.cells
theorem FAt.below {w x : World} {b o : Nat} {l : List Facts} (h : FAt w b o l) (hb : Below w.heap.size w x) : FAt x b o l := fun k f hk => (h k f hk).below hb

theorem cat_start (f : Facts) (hf : f.wf) : Facts.empty.cat f = f := by
  obtain ⟨n, l, m, s⟩ := f
  have h1 := hf.least
  have h2 := hf.most
  unfold Facts.cat Facts.empty
  simp only [Bool.true_and, if_true]
  congr 1
  · unfold lsum; have := h1.1; have := h1.2; simp only at *; split <;> omega
  · unfold lsum; have := h2.1; have := h2.2; simp only at *; split <;> omega
  · obtain ⟨a, b, c, d⟩ := s
    simp [Cs.union, Cs.none]
theorem cats_start (l : List Facts) (h : l ≠ []) (hl : ∀ f, f ∈ l → f.wf) : l.foldl Facts.cat Facts.empty = Facts.cats l := by
  cases l with
  | nil => exact absurd rfl h
  | cons f l =>
    rw [List.foldl_cons, cat_start f (hl f (by simp))]
    rfl

set_option maxRecDepth 100000 in
set_option maxHeartbeats 8000000 in
theorem refcat_any (b o c : Nat) (l : List Facts) (w : World) (hl : FAt w b o l) (hwf : ∀ f, f ∈ l → f.wf) (hlen : l.length ≤ 1048576) (_hc : l.length ≤ c) (hbw : b < w.heap.size) :
    Calls Try.prog 72 #[.slice (some ⟨b, o, none⟩) l.length c] w fun e w' => e = .returned (encF (l.foldl Facts.cat Facts.empty)) ∧ Below w.heap.size w w' := by
  have HFL := hid hl
  have HWF := hid hwf
  clear hl hwf
  go_enter Try.func72, Try.ntmps72
  go_wp2_with fail
  go_loopw [4] (fun i wr => ∃ (k : Nat) (A : Facts), k ≤ l.length ∧ i = .int .i64 k ∧ A.wf ∧ Hid (A = (l.take k).foldl Facts.cat Facts.empty) ∧ Hid (Row wr (w.heap.size + 1) A.cells 69 ∧ Row wr w.heap.size [.bool false, .int .i64 0, .int .i64 0, .int .u64 0, .int .u64 0, .int .u64 0, .int .u64 0] 69 ∧ Below w.heap.size w wr)) (fun i _ => l.length - (intOf i).toNat)
  case atStart =>
    exact ⟨0, Facts.empty, by omega, rfl, Facts.empty_wf, rfl, Row.new (cs := [.bool true, .int .i64 0, .int .i64 0, .int .u64 0, .int .u64 0, .int .u64 0, .int .u64 0]) (by simp), (Row.new (cs := [.bool false, .int .i64 0, .int .i64 0, .int .u64 0, .int .u64 0, .int .u64 0, .int .u64 0]) rfl).alloc _, ((Below.refl _ w).alloc (Nat.le_refl _) _).alloc (by simp) _⟩
  case round =>
    obtain ⟨k, A, hk, rfl, hAw, hA, HX⟩ := hrel
    have q1 := HX.out.1.c7f
    have z1 := HX.out.1.lt
    have q0 := HX.out.2.1.c7f
    have z0 := HX.out.2.1.lt
    by_cases hlt : k < l.length
    · have hGw : l[k].wf := HWF.out _ (List.getElem_mem hlt)
      have hTk := hid (show (l.take (k + 1)).foldl Facts.cat Facts.empty = ((l.take k).foldl Facts.cat Facts.empty).cat l[k] by rw [List.take_add_one, List.getElem?_eq_getElem hlt, List.foldl_append]; rfl)
      have hGa := HFL.out k l[k] (List.getElem?_eq_getElem hlt)
      generalize l[k] = G at hGw hTk hGa
      have HGW := hid hGw
      have HAW := hid hAw
      have HGX := hid (fun (x : World) (hx : Below w.heap.size w x) => (CellsAt.below hGa hx).c7)
      clear hGa hGw hAw
      have hbne : b ≠ w.heap.size + 1 := by omega
      have hbne2 : w.heap.size + 1 ≠ b := by omega
      rcases (show A.null = true ∨ A.null = false by cases A.null <;> simp) with hn | hn
      · skip
        have HC6 := hid (fun (x : World) (hx : Grow wr.drew x) => And.intro ((HX.out.1.drew.below hx HX.out.1.drew.lt).c7f) (HGX.out x ((HX.out.2.2.drew).trans (hx.mono HX.out.2.2.size))))
        go_wp2_with fail
        refine wp_region_inv 8 (Grow) (by kernel_rfl) (by kernel_rfl) (Grow.refl) (fun _ _ _ => Grow.trans) ?_
        simp only [fill, dstOf, Act.put, List.take_succ_cons, List.take_zero, List.getElem?_toArray, List.getElem?_cons_zero, List.getElem?_cons_succ, Option.bind_some, List.setIfInBounds_toArray, List.set_cons_zero, List.set_cons_succ]
        refine Plan.det 1 rfl (Grow.refl) ?_
        apply Exists.intro
        refine ⟨fun vs x hR hF K hK => ?_, ?_⟩
        · clear hF
          go_simp
          exact hK _ _ (Grow.refl _) rfl
        refine Plan.det 2 rfl (Grow.refl) ?_
        apply Exists.intro
        refine ⟨fun vs x hR hF K hK => ?_, ?_⟩
        · have f0 := hF 0 _ _ rfl rfl; have hc := HC6.out x hR; clear hF
          go_simp
          exact hK _ _ (Grow.refl _) rfl
        refine Plan.det 3 rfl (Grow.refl) ?_
        apply Exists.intro
        refine ⟨fun vs x hR hF K hK => ?_, ?_⟩
        · clear hF
          go_simp
          exact hK _ _ (Grow.refl _) rfl
        refine Plan.det 4 rfl (Grow.refl) ?_
        apply Exists.intro
        refine ⟨fun vs x hR hF K hK => ?_, ?_⟩
        · clear hF
          go_simp
          exact hK _ _ (Grow.refl _) rfl
        refine Plan.det 5 rfl (Grow.refl) ?_
        apply Exists.intro
        refine ⟨fun vs x hR hF K hK => ?_, ?_⟩
        · have f2 := hF 1 _ _ rfl rfl; have f3 := hF 0 _ _ rfl rfl; clear hF
          go_simp
          exact hK _ _ (Grow.refl _) rfl
        refine Plan.det 6 rfl (Grow.refl) ?_
        apply Exists.intro
        refine ⟨fun vs x hR hF K hK => ?_, ?_⟩
        · have f4 := hF 0 _ _ rfl rfl; clear hF
          go_simp
          exact hK _ _ (Grow.refl _) rfl
        refine Plan.det 7 rfl (Grow.refl) ?_
        apply Exists.intro
        refine ⟨fun vs x hR hF K hK => ?_, ?_⟩
        · have f5 := hF 0 _ _ rfl rfl; have hc := HC6.out x hR; clear hF
          go_simp
          exact hK _ _ (Grow.refl _) rfl
        refine Plan.det 8 rfl (Grow.refl) ?_
        apply Exists.intro
        refine ⟨fun vs x hR hF K hK => ?_, ?_⟩
        · have f1 := hF 5 _ _ rfl rfl; have f6 := hF 0 _ _ rfl rfl; clear hF
          go_simp
          refine (UnionRef_any A.first G.first x HAW.out.first HGW.out.first).mono ?_
          rintro e x1 ⟨rfl, hbe⟩
          exact ⟨_, rfl, hK _ _ hbe rfl⟩
        refine Plan.nil (fun vs x hR hF => ?_)
        have f0 := hF 7 _ _ rfl; have f1 := hF 6 _ _ rfl; have f2 := hF 5 _ _ rfl; have f3 := hF 4 _ _ rfl; have f4 := hF 3 _ _ rfl; have f5 := hF 2 _ _ rfl; have f6 := hF 1 _ _ rfl; have f7 := hF 0 _ _ rfl
        clear hF
        simp only [f0, f1, f2, f3, f4, f5, f6, f7]
        clear f0 f1 f2 f3 f4 f5 f6 f7
        simp only [List.drop_succ_cons, List.drop_zero]
        have hr := HX.out.1.drew.below hR HX.out.1.drew.lt
        have hr0 := HX.out.2.1.drew.below hR HX.out.2.1.drew.lt
        have hb := HX.out.2.2.drew.trans (hR.mono HX.out.2.2.size)
        have hg := HGX.out x hb
        have q6 := hr.c7f
        have z6 := hr.lt
        clear hR HC6 q1 q0
        go_upto_region 8 with fail
        have s1 := (((((hr.set 3 (.int .u64 (A.first.union G.first).a)).set 4 (.int .u64 (A.first.union G.first).b)).set 5 (.int .u64 (A.first.union G.first).c)).set 6 (.int .u64 (A.first.union G.first).d)).set 0 (.bool G.null))
        have s0 := (((((hr0.other (by omega : w.heap.size ≠ w.heap.size + 1) 3 (.int .u64 (A.first.union G.first).a)).other (by omega : w.heap.size ≠ w.heap.size + 1) 4 (.int .u64 (A.first.union G.first).b)).other (by omega : w.heap.size ≠ w.heap.size + 1) 5 (.int .u64 (A.first.union G.first).c)).other (by omega : w.heap.size ≠ w.heap.size + 1) 6 (.int .u64 (A.first.union G.first).d)).other (by omega : w.heap.size ≠ w.heap.size + 1) 0 (.bool G.null))
        have sb := (((((hb.setCell (p := ⟨w.heap.size + 1, 3, none⟩) (by show w.heap.size ≤ w.heap.size + 1; omega) (.int .u64 (A.first.union G.first).a)).setCell (p := ⟨w.heap.size + 1, 4, none⟩) (by show w.heap.size ≤ w.heap.size + 1; omega) (.int .u64 (A.first.union G.first).b)).setCell (p := ⟨w.heap.size + 1, 5, none⟩) (by show w.heap.size ≤ w.heap.size + 1; omega) (.int .u64 (A.first.union G.first).c)).setCell (p := ⟨w.heap.size + 1, 6, none⟩) (by show w.heap.size ≤ w.heap.size + 1; omega) (.int .u64 (A.first.union G.first).d)).setCell (p := ⟨w.heap.size + 1, 0, none⟩) (by show w.heap.size ≤ w.heap.size + 1; omega) (.bool G.null))
        generalize (((((x.setCell ⟨w.heap.size + 1, 3, none⟩ (.int .u64 (A.first.union G.first).a)).setCell ⟨w.heap.size + 1, 4, none⟩ (.int .u64 (A.first.union G.first).b)).setCell ⟨w.heap.size + 1, 5, none⟩ (.int .u64 (A.first.union G.first).c)).setCell ⟨w.heap.size + 1, 6, none⟩ (.int .u64 (A.first.union G.first).d)).setCell ⟨w.heap.size + 1, 0, none⟩ (.bool G.null)) = y1 at s1 s0 sb ⊢
        clear hr hr0 hb hg q6 z6
        have H1 : Hid (Row y1 (w.heap.size + 1) [.bool G.null, .int .i64 A.least, .int .i64 A.most, .int .u64 (A.first.union G.first).a, .int .u64 (A.first.union G.first).b, .int .u64 (A.first.union G.first).c, .int .u64 (A.first.union G.first).d] 69 ∧ Row y1 w.heap.size [.bool false, .int .i64 0, .int .i64 0, .int .u64 0, .int .u64 0, .int .u64 0, .int .u64 0] 69 ∧ Below w.heap.size w y1) := ⟨s1, s0, sb⟩
        clear s1 s0 sb
        have HC8 := hid (fun (x : World) (hx : Grow y1.drew x) => And.intro ((H1.out.1.drew.below hx H1.out.1.drew.lt).c7f) (HGX.out x ((H1.out.2.2.drew).trans (hx.mono H1.out.2.2.size))))
        refine wp_region_inv 8 (Grow) (by kernel_rfl) (by kernel_rfl) (Grow.refl) (fun _ _ _ => Grow.trans) ?_
        simp only [fill, dstOf, Act.put, List.take_succ_cons, List.take_zero, List.getElem?_toArray, List.getElem?_cons_zero, List.getElem?_cons_succ, Option.bind_some, List.setIfInBounds_toArray, List.set_cons_zero, List.set_cons_succ]
        refine Plan.det 1 rfl (Grow.refl) ?_
        apply Exists.intro
        refine ⟨fun vs x hR hF K hK => ?_, ?_⟩
        · clear hF
          go_simp
          exact hK _ _ (Grow.refl _) rfl
        refine Plan.det 2 rfl (Grow.refl) ?_
        apply Exists.intro
        refine ⟨fun vs x hR hF K hK => ?_, ?_⟩
        · have f0 := hF 0 _ _ rfl rfl; have hc := HC8.out x hR; clear hF
          go_simp
          exact hK _ _ (Grow.refl _) rfl
        refine Plan.det 3 rfl (Grow.refl) ?_
        apply Exists.intro
        refine ⟨fun vs x hR hF K hK => ?_, ?_⟩
        · clear hF
          go_simp
          exact hK _ _ (Grow.refl _) rfl
        refine Plan.det 4 rfl (Grow.refl) ?_
        apply Exists.intro
        refine ⟨fun vs x hR hF K hK => ?_, ?_⟩
        · clear hF
          go_simp
          exact hK _ _ (Grow.refl _) rfl
        refine Plan.det 5 rfl (Grow.refl) ?_
        apply Exists.intro
        refine ⟨fun vs x hR hF K hK => ?_, ?_⟩
        · have f2 := hF 1 _ _ rfl rfl; have f3 := hF 0 _ _ rfl rfl; clear hF
          go_simp
          exact hK _ _ (Grow.refl _) rfl
        refine Plan.det 6 rfl (Grow.refl) ?_
        apply Exists.intro
        refine ⟨fun vs x hR hF K hK => ?_, ?_⟩
        · have f4 := hF 0 _ _ rfl rfl; clear hF
          go_simp
          exact hK _ _ (Grow.refl _) rfl
        refine Plan.det 7 rfl (Grow.refl) ?_
        apply Exists.intro
        refine ⟨fun vs x hR hF K hK => ?_, ?_⟩
        · have f5 := hF 0 _ _ rfl rfl; have hc := HC8.out x hR; clear hF
          go_simp
          exact hK _ _ (Grow.refl _) rfl
        refine Plan.det 8 rfl (Grow.refl) ?_
        apply Exists.intro
        refine ⟨fun vs x hR hF K hK => ?_, ?_⟩
        · have f1 := hF 5 _ _ rfl rfl; have f6 := hF 0 _ _ rfl rfl; clear hF
          go_simp
          refine (sumRef_any A.least G.least x HAW.out.least HGW.out.least).mono ?_
          rintro e x1 ⟨rfl, rfl⟩
          exact ⟨_, rfl, hK _ _ (Grow.refl _) rfl⟩
        refine Plan.nil (fun vs x hR hF => ?_)
        have f0 := hF 7 _ _ rfl; have f1 := hF 6 _ _ rfl; have f2 := hF 5 _ _ rfl; have f3 := hF 4 _ _ rfl; have f4 := hF 3 _ _ rfl; have f5 := hF 2 _ _ rfl; have f6 := hF 1 _ _ rfl; have f7 := hF 0 _ _ rfl
        clear hF
        simp only [f0, f1, f2, f3, f4, f5, f6, f7]
        clear f0 f1 f2 f3 f4 f5 f6 f7
        simp only [List.drop_succ_cons, List.drop_zero]
        have hr := H1.out.1.drew.below hR H1.out.1.drew.lt
        have hr0 := H1.out.2.1.drew.below hR H1.out.2.1.drew.lt
        have hb := H1.out.2.2.drew.trans (hR.mono H1.out.2.2.size)
        have q8 := hr.c7f
        have z8 := hr.lt
        clear hR HC8
        go_upto_region 9 with fail
        have s1 := (hr.set 1 (.int .i64 (lsum A.least G.least)))
        have s0 := (hr0.other (by omega : w.heap.size ≠ w.heap.size + 1) 1 (.int .i64 (lsum A.least G.least)))
        have sb := (hb.setCell (p := ⟨w.heap.size + 1, 1, none⟩) (by show w.heap.size ≤ w.heap.size + 1; omega) (.int .i64 (lsum A.least G.least)))
        generalize (x.setCell ⟨w.heap.size + 1, 1, none⟩ (.int .i64 (lsum A.least G.least))) = y2 at s1 s0 sb ⊢
        clear hr hr0 hb q8 z8
        have H2 : Hid (Row y2 (w.heap.size + 1) [.bool G.null, .int .i64 (lsum A.least G.least), .int .i64 A.most, .int .u64 (A.first.union G.first).a, .int .u64 (A.first.union G.first).b, .int .u64 (A.first.union G.first).c, .int .u64 (A.first.union G.first).d] 69 ∧ Row y2 w.heap.size [.bool false, .int .i64 0, .int .i64 0, .int .u64 0, .int .u64 0, .int .u64 0, .int .u64 0] 69 ∧ Below w.heap.size w y2) := ⟨s1, s0, sb⟩
        clear s1 s0 sb
        have HC9 := hid (fun (x : World) (hx : Grow y2.drew x) => And.intro ((H2.out.1.drew.below hx H2.out.1.drew.lt).c7f) (HGX.out x ((H2.out.2.2.drew).trans (hx.mono H2.out.2.2.size))))
        refine wp_region_inv 8 (Grow) (by kernel_rfl) (by kernel_rfl) (Grow.refl) (fun _ _ _ => Grow.trans) ?_
        simp only [fill, dstOf, Act.put, List.take_succ_cons, List.take_zero, List.getElem?_toArray, List.getElem?_cons_zero, List.getElem?_cons_succ, Option.bind_some, List.setIfInBounds_toArray, List.set_cons_zero, List.set_cons_succ]
        refine Plan.det 1 rfl (Grow.refl) ?_
        apply Exists.intro
        refine ⟨fun vs x hR hF K hK => ?_, ?_⟩
        · clear hF
          go_simp
          exact hK _ _ (Grow.refl _) rfl
        refine Plan.det 2 rfl (Grow.refl) ?_
        apply Exists.intro
        refine ⟨fun vs x hR hF K hK => ?_, ?_⟩
        · have f0 := hF 0 _ _ rfl rfl; have hc := HC9.out x hR; clear hF
          go_simp
          exact hK _ _ (Grow.refl _) rfl
        refine Plan.det 3 rfl (Grow.refl) ?_
        apply Exists.intro
        refine ⟨fun vs x hR hF K hK => ?_, ?_⟩
        · clear hF
          go_simp
          exact hK _ _ (Grow.refl _) rfl
        refine Plan.det 4 rfl (Grow.refl) ?_
        apply Exists.intro
        refine ⟨fun vs x hR hF K hK => ?_, ?_⟩
        · clear hF
          go_simp
          exact hK _ _ (Grow.refl _) rfl
        refine Plan.det 5 rfl (Grow.refl) ?_
        apply Exists.intro
        refine ⟨fun vs x hR hF K hK => ?_, ?_⟩
        · have f2 := hF 1 _ _ rfl rfl; have f3 := hF 0 _ _ rfl rfl; clear hF
          go_simp
          exact hK _ _ (Grow.refl _) rfl
        refine Plan.det 6 rfl (Grow.refl) ?_
        apply Exists.intro
        refine ⟨fun vs x hR hF K hK => ?_, ?_⟩
        · have f4 := hF 0 _ _ rfl rfl; clear hF
          go_simp
          exact hK _ _ (Grow.refl _) rfl
        refine Plan.det 7 rfl (Grow.refl) ?_
        apply Exists.intro
        refine ⟨fun vs x hR hF K hK => ?_, ?_⟩
        · have f5 := hF 0 _ _ rfl rfl; have hc := HC9.out x hR; clear hF
          go_simp
          exact hK _ _ (Grow.refl _) rfl
        refine Plan.det 8 rfl (Grow.refl) ?_
        apply Exists.intro
        refine ⟨fun vs x hR hF K hK => ?_, ?_⟩
        · have f1 := hF 5 _ _ rfl rfl; have f6 := hF 0 _ _ rfl rfl; clear hF
          go_simp
          refine (sumRef_any A.most G.most x HAW.out.most HGW.out.most).mono ?_
          rintro e x1 ⟨rfl, rfl⟩
          exact ⟨_, rfl, hK _ _ (Grow.refl _) rfl⟩
        refine Plan.nil (fun vs x hR hF => ?_)
        have f0 := hF 7 _ _ rfl; have f1 := hF 6 _ _ rfl; have f2 := hF 5 _ _ rfl; have f3 := hF 4 _ _ rfl; have f4 := hF 3 _ _ rfl; have f5 := hF 2 _ _ rfl; have f6 := hF 1 _ _ rfl; have f7 := hF 0 _ _ rfl
        clear hF
        simp only [f0, f1, f2, f3, f4, f5, f6, f7]
        clear f0 f1 f2 f3 f4 f5 f6 f7
        simp only [List.drop_succ_cons, List.drop_zero]
        have hr := H2.out.1.drew.below hR H2.out.1.drew.lt
        have hr0 := H2.out.2.1.drew.below hR H2.out.2.1.drew.lt
        have hb := H2.out.2.2.drew.trans (hR.mono H2.out.2.2.size)
        have q9 := hr.c7f
        have z9 := hr.lt
        clear hR HC9
        go_wp2_with fail
        go_roundw
        case rel =>
          refine ⟨k + 1, A.cat G, by omega, by go_num, Facts.cat_wf HAW.out HGW.out, by rw [hTk.out, ← hA.out]; exact rfl, ?_, hr0.other (by omega) _ _, hb.setCell (by show w.heap.size ≤ w.heap.size + 1; omega) _⟩
          rw [show (A.cat G).cells = [.bool G.null, .int .i64 (lsum A.least G.least), .int .i64 (lsum A.most G.most), .int .u64 (A.first.union G.first).a, .int .u64 (A.first.union G.first).b, .int .u64 (A.first.union G.first).c, .int .u64 (A.first.union G.first).d] by simp [Facts.cat, Facts.cells, hn]]
          exact hr.set 2 _
        case measure => simp [intOf]; omega
      · skip
        have hr := HX.out.1
        have hr0 := HX.out.2.1
        have hb := HX.out.2.2
        go_upto_region 8 with fail
        have s1 := (hr.set 0 (.bool false))
        have s0 := (hr0.other (by omega : w.heap.size ≠ w.heap.size + 1) 0 (.bool false))
        have sb := (hb.setCell (p := ⟨w.heap.size + 1, 0, none⟩) (by show w.heap.size ≤ w.heap.size + 1; omega) (.bool false))
        generalize (wr.setCell ⟨w.heap.size + 1, 0, none⟩ (.bool false)) = y1 at s1 s0 sb ⊢
        clear hr hr0 hb q1 q0
        have H1 : Hid (Row y1 (w.heap.size + 1) [.bool false, .int .i64 A.least, .int .i64 A.most, .int .u64 (A.first).a, .int .u64 (A.first).b, .int .u64 (A.first).c, .int .u64 (A.first).d] 69 ∧ Row y1 w.heap.size [.bool false, .int .i64 0, .int .i64 0, .int .u64 0, .int .u64 0, .int .u64 0, .int .u64 0] 69 ∧ Below w.heap.size w y1) := ⟨s1, s0, sb⟩
        clear s1 s0 sb
        have HC8 := hid (fun (x : World) (hx : Grow y1.drew x) => And.intro ((H1.out.1.drew.below hx H1.out.1.drew.lt).c7f) (HGX.out x ((H1.out.2.2.drew).trans (hx.mono H1.out.2.2.size))))
        refine wp_region_inv 8 (Grow) (by kernel_rfl) (by kernel_rfl) (Grow.refl) (fun _ _ _ => Grow.trans) ?_
        simp only [fill, dstOf, Act.put, List.take_succ_cons, List.take_zero, List.getElem?_toArray, List.getElem?_cons_zero, List.getElem?_cons_succ, Option.bind_some, List.setIfInBounds_toArray, List.set_cons_zero, List.set_cons_succ]
        refine Plan.det 1 rfl (Grow.refl) ?_
        apply Exists.intro
        refine ⟨fun vs x hR hF K hK => ?_, ?_⟩
        · clear hF
          go_simp
          exact hK _ _ (Grow.refl _) rfl
        refine Plan.det 2 rfl (Grow.refl) ?_
        apply Exists.intro
        refine ⟨fun vs x hR hF K hK => ?_, ?_⟩
        · have f0 := hF 0 _ _ rfl rfl; have hc := HC8.out x hR; clear hF
          go_simp
          exact hK _ _ (Grow.refl _) rfl
        refine Plan.det 3 rfl (Grow.refl) ?_
        apply Exists.intro
        refine ⟨fun vs x hR hF K hK => ?_, ?_⟩
        · clear hF
          go_simp
          exact hK _ _ (Grow.refl _) rfl
        refine Plan.det 4 rfl (Grow.refl) ?_
        apply Exists.intro
        refine ⟨fun vs x hR hF K hK => ?_, ?_⟩
        · clear hF
          go_simp
          exact hK _ _ (Grow.refl _) rfl
        refine Plan.det 5 rfl (Grow.refl) ?_
        apply Exists.intro
        refine ⟨fun vs x hR hF K hK => ?_, ?_⟩
        · have f2 := hF 1 _ _ rfl rfl; have f3 := hF 0 _ _ rfl rfl; clear hF
          go_simp
          exact hK _ _ (Grow.refl _) rfl
        refine Plan.det 6 rfl (Grow.refl) ?_
        apply Exists.intro
        refine ⟨fun vs x hR hF K hK => ?_, ?_⟩
        · have f4 := hF 0 _ _ rfl rfl; clear hF
          go_simp
          exact hK _ _ (Grow.refl _) rfl
        refine Plan.det 7 rfl (Grow.refl) ?_
        apply Exists.intro
        refine ⟨fun vs x hR hF K hK => ?_, ?_⟩
        · have f5 := hF 0 _ _ rfl rfl; have hc := HC8.out x hR; clear hF
          go_simp
          exact hK _ _ (Grow.refl _) rfl
        refine Plan.det 8 rfl (Grow.refl) ?_
        apply Exists.intro
        refine ⟨fun vs x hR hF K hK => ?_, ?_⟩
        · have f1 := hF 5 _ _ rfl rfl; have f6 := hF 0 _ _ rfl rfl; clear hF
          go_simp
          refine (sumRef_any A.least G.least x HAW.out.least HGW.out.least).mono ?_
          rintro e x1 ⟨rfl, rfl⟩
          exact ⟨_, rfl, hK _ _ (Grow.refl _) rfl⟩
        refine Plan.nil (fun vs x hR hF => ?_)
        have f0 := hF 7 _ _ rfl; have f1 := hF 6 _ _ rfl; have f2 := hF 5 _ _ rfl; have f3 := hF 4 _ _ rfl; have f4 := hF 3 _ _ rfl; have f5 := hF 2 _ _ rfl; have f6 := hF 1 _ _ rfl; have f7 := hF 0 _ _ rfl
        clear hF
        simp only [f0, f1, f2, f3, f4, f5, f6, f7]
        clear f0 f1 f2 f3 f4 f5 f6 f7
        simp only [List.drop_succ_cons, List.drop_zero]
        have hr := H1.out.1.drew.below hR H1.out.1.drew.lt
        have hr0 := H1.out.2.1.drew.below hR H1.out.2.1.drew.lt
        have hb := H1.out.2.2.drew.trans (hR.mono H1.out.2.2.size)
        have q8 := hr.c7f
        have z8 := hr.lt
        clear hR HC8
        go_upto_region 9 with fail
        have s1 := (hr.set 1 (.int .i64 (lsum A.least G.least)))
        have s0 := (hr0.other (by omega : w.heap.size ≠ w.heap.size + 1) 1 (.int .i64 (lsum A.least G.least)))
        have sb := (hb.setCell (p := ⟨w.heap.size + 1, 1, none⟩) (by show w.heap.size ≤ w.heap.size + 1; omega) (.int .i64 (lsum A.least G.least)))
        generalize (x.setCell ⟨w.heap.size + 1, 1, none⟩ (.int .i64 (lsum A.least G.least))) = y2 at s1 s0 sb ⊢
        clear hr hr0 hb q8 z8
        have H2 : Hid (Row y2 (w.heap.size + 1) [.bool false, .int .i64 (lsum A.least G.least), .int .i64 A.most, .int .u64 (A.first).a, .int .u64 (A.first).b, .int .u64 (A.first).c, .int .u64 (A.first).d] 69 ∧ Row y2 w.heap.size [.bool false, .int .i64 0, .int .i64 0, .int .u64 0, .int .u64 0, .int .u64 0, .int .u64 0] 69 ∧ Below w.heap.size w y2) := ⟨s1, s0, sb⟩
        clear s1 s0 sb
        have HC9 := hid (fun (x : World) (hx : Grow y2.drew x) => And.intro ((H2.out.1.drew.below hx H2.out.1.drew.lt).c7f) (HGX.out x ((H2.out.2.2.drew).trans (hx.mono H2.out.2.2.size))))
        refine wp_region_inv 8 (Grow) (by kernel_rfl) (by kernel_rfl) (Grow.refl) (fun _ _ _ => Grow.trans) ?_
        simp only [fill, dstOf, Act.put, List.take_succ_cons, List.take_zero, List.getElem?_toArray, List.getElem?_cons_zero, List.getElem?_cons_succ, Option.bind_some, List.setIfInBounds_toArray, List.set_cons_zero, List.set_cons_succ]
        refine Plan.det 1 rfl (Grow.refl) ?_
        apply Exists.intro
        refine ⟨fun vs x hR hF K hK => ?_, ?_⟩
        · clear hF
          go_simp
          exact hK _ _ (Grow.refl _) rfl
        refine Plan.det 2 rfl (Grow.refl) ?_
        apply Exists.intro
        refine ⟨fun vs x hR hF K hK => ?_, ?_⟩
        · have f0 := hF 0 _ _ rfl rfl; have hc := HC9.out x hR; clear hF
          go_simp
          exact hK _ _ (Grow.refl _) rfl
        refine Plan.det 3 rfl (Grow.refl) ?_
        apply Exists.intro
        refine ⟨fun vs x hR hF K hK => ?_, ?_⟩
        · clear hF
          go_simp
          exact hK _ _ (Grow.refl _) rfl
        refine Plan.det 4 rfl (Grow.refl) ?_
        apply Exists.intro
        refine ⟨fun vs x hR hF K hK => ?_, ?_⟩
        · clear hF
          go_simp
          exact hK _ _ (Grow.refl _) rfl
        refine Plan.det 5 rfl (Grow.refl) ?_
        apply Exists.intro
        refine ⟨fun vs x hR hF K hK => ?_, ?_⟩
        · have f2 := hF 1 _ _ rfl rfl; have f3 := hF 0 _ _ rfl rfl; clear hF
          go_simp
          exact hK _ _ (Grow.refl _) rfl
        refine Plan.det 6 rfl (Grow.refl) ?_
        apply Exists.intro
        refine ⟨fun vs x hR hF K hK => ?_, ?_⟩
        · have f4 := hF 0 _ _ rfl rfl; clear hF
          go_simp
          exact hK _ _ (Grow.refl _) rfl
        refine Plan.det 7 rfl (Grow.refl) ?_
        apply Exists.intro
        refine ⟨fun vs x hR hF K hK => ?_, ?_⟩
        · have f5 := hF 0 _ _ rfl rfl; have hc := HC9.out x hR; clear hF
          go_simp
          exact hK _ _ (Grow.refl _) rfl
        refine Plan.det 8 rfl (Grow.refl) ?_
        apply Exists.intro
        refine ⟨fun vs x hR hF K hK => ?_, ?_⟩
        · have f1 := hF 5 _ _ rfl rfl; have f6 := hF 0 _ _ rfl rfl; clear hF
          go_simp
          refine (sumRef_any A.most G.most x HAW.out.most HGW.out.most).mono ?_
          rintro e x1 ⟨rfl, rfl⟩
          exact ⟨_, rfl, hK _ _ (Grow.refl _) rfl⟩
        refine Plan.nil (fun vs x hR hF => ?_)
        have f0 := hF 7 _ _ rfl; have f1 := hF 6 _ _ rfl; have f2 := hF 5 _ _ rfl; have f3 := hF 4 _ _ rfl; have f4 := hF 3 _ _ rfl; have f5 := hF 2 _ _ rfl; have f6 := hF 1 _ _ rfl; have f7 := hF 0 _ _ rfl
        clear hF
        simp only [f0, f1, f2, f3, f4, f5, f6, f7]
        clear f0 f1 f2 f3 f4 f5 f6 f7
        simp only [List.drop_succ_cons, List.drop_zero]
        have hr := H2.out.1.drew.below hR H2.out.1.drew.lt
        have hr0 := H2.out.2.1.drew.below hR H2.out.2.1.drew.lt
        have hb := H2.out.2.2.drew.trans (hR.mono H2.out.2.2.size)
        have q9 := hr.c7f
        have z9 := hr.lt
        clear hR HC9
        go_wp2_with fail
        go_roundw
        case rel =>
          refine ⟨k + 1, A.cat G, by omega, by go_num, Facts.cat_wf HAW.out HGW.out, by rw [hTk.out, ← hA.out]; exact rfl, ?_, hr0.other (by omega) _ _, hb.setCell (by show w.heap.size ≤ w.heap.size + 1; omega) _⟩
          rw [show (A.cat G).cells = [.bool false, .int .i64 (lsum A.least G.least), .int .i64 (lsum A.most G.most), .int .u64 (A.first).a, .int .u64 (A.first).b, .int .u64 (A.first).c, .int .u64 (A.first).d] by simp [Facts.cat, Facts.cells, hn]]
          exact hr.set 2 _
        case measure => simp [intOf]; omega
    · obtain rfl : k = l.length := by omega
      go_wp2_with fail
      refine ret_row 2 69 rfl w.heap.size rfl A.cells (CellsAt.of_row (T := 69) (HX.out.2.1.set7 _ _ _ _ _ _ _)) _ Try.underlying69 rfl (size_rfacts _ _ _ _ _ _ _) rfl ?_
      have hAe := hA.out
      rw [List.take_length] at hAe
      rw [← hAe]
      exact ⟨rfl, below7 HX.out.2.2 (Nat.le_refl _) _ _ _ _ _ _ _⟩
end Go.Proofs.Ytibfnmkeghkdpaa
