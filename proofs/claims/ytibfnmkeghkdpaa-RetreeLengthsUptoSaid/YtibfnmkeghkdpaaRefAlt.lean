/- The reference's alt of a list of facts. -/
import Derived.Test.YtibfnmkeghkdpaaRefCat
import Derived.BigQuiet
namespace Go.Proofs.Ytibfnmkeghkdpaa
open Go.RowKit
attribute [local go_sem] gives givesUpon

theorem alts_take (l : List Facts) (k : Nat) (hk : 1 ≤ k) (hlt : k < l.length) : Facts.alts (l.take (k + 1)) = (Facts.alts (l.take k)).alt l[k] := by
  match l, hlt with
  | f :: l, hlt =>
    obtain ⟨j, rfl⟩ : ∃ j, k = j + 1 := ⟨k - 1, by omega⟩
    have hj : j < l.length := by simpa using hlt
    rw [List.take_succ_cons, List.take_succ_cons]
    show (l.take (j + 1)).foldl Facts.alt f = ((l.take j).foldl Facts.alt f).alt _
    rw [List.take_add_one, List.getElem?_eq_getElem hj, List.foldl_append]
    rfl
theorem alts_one (l : List Facts) (h : 0 < l.length) : Facts.alts (l.take 1) = l[0] := by
  match l, h with
  | f :: l, _ => rfl

set_option maxRecDepth 100000 in
set_option maxHeartbeats 8000000 in
theorem refalt_any (b o c : Nat) (l : List Facts) (w : World) (hl : FAt w b o l) (hwf : ∀ f, f ∈ l → f.wf) (hlen : l.length ≤ 1048576) (_hc : l.length ≤ c) (hbw : b < w.heap.size) (hl0 : 0 < l.length) :
    Calls Try.prog 73 #[.slice (some ⟨b, o, none⟩) l.length c] w fun e w' => e = .returned (encF (Facts.alts l)) ∧ Below w.heap.size w w' := by
  have HFL := hid hl
  have HWF := hid hwf
  have hK := alts_one l hl0
  have hGw : l[0].wf := hwf _ (List.getElem_mem hl0)
  have hGa := HFL.out 0 l[0] (List.getElem?_eq_getElem hl0)
  generalize l[0] = F at hK hGw hGa
  have HK0 := hid hK
  have HFW := hid hGw
  have HF0 := hid (fun (x : World) (hx : Below w.heap.size w x) => (by have h := (CellsAt.below hGa hx).c7; simpa using h :
    (x.cell? ⟨b, o, none⟩ = some (.bool F.null) ∧ x.cell? ⟨b, o + 1, none⟩ = some (.int .i64 F.least) ∧ x.cell? ⟨b, o + 2, none⟩ = some (.int .i64 F.most) ∧ x.cell? ⟨b, o + 3, none⟩ = some (.int .u64 F.first.a) ∧ x.cell? ⟨b, o + 4, none⟩ = some (.int .u64 F.first.b) ∧ x.cell? ⟨b, o + 5, none⟩ = some (.int .u64 F.first.c) ∧ x.cell? ⟨b, o + 6, none⟩ = some (.int .u64 F.first.d))))
  have qf := HF0.out _ ((Below.refl w.heap.size w).alloc (Nat.le_refl _) (.cells #[.bool false, .int .i64 0, .int .i64 0, .int .u64 0, .int .u64 0, .int .u64 0, .int .u64 0] 69))
  clear hl hwf hK hGw hGa
  go_enter Try.func73, Try.ntmps73
  go_wp2_with fail
  clear qf
  go_loopw [4] (fun i wr => ∃ (k : Nat) (A : Facts), 1 ≤ k ∧ k ≤ l.length ∧ i = .int .i64 k ∧ A.wf ∧ Hid (A = Facts.alts (l.take k)) ∧ Hid (Row wr (w.heap.size + 1) A.cells 69 ∧ Row wr w.heap.size [.bool false, .int .i64 0, .int .i64 0, .int .u64 0, .int .u64 0, .int .u64 0, .int .u64 0] 69 ∧ Below w.heap.size w wr)) (fun i _ => l.length - (intOf i).toNat)
  case atStart =>
    exact ⟨1, F, by omega, by omega, rfl, HFW.out, HK0.out.symm, Row.new (cs := [.bool F.null, .int .i64 F.least, .int .i64 F.most, .int .u64 (F.first).a, .int .u64 (F.first).b, .int .u64 (F.first).c, .int .u64 (F.first).d]) (by simp), (Row.new (cs := [.bool false, .int .i64 0, .int .i64 0, .int .u64 0, .int .u64 0, .int .u64 0, .int .u64 0]) rfl).alloc _, ((Below.refl _ w).alloc (Nat.le_refl _) _).alloc (by simp) _⟩
  case round =>
    obtain ⟨k, A, hk1, hk, rfl, hAw, hA, HX⟩ := hrel
    have q1 := HX.out.1.c7f
    have z1 := HX.out.1.lt
    have q0 := HX.out.2.1.c7f
    have z0 := HX.out.2.1.lt
    by_cases hlt : k < l.length
    · have hGw : l[k].wf := HWF.out _ (List.getElem_mem hlt)
      have hTk := hid (alts_take l k hk1 hlt)
      have hGa := HFL.out k l[k] (List.getElem?_eq_getElem hlt)
      generalize l[k] = G at hGw hTk hGa
      have HGW := hid hGw
      have HAW := hid hAw
      have HGX := hid (fun (x : World) (hx : Below w.heap.size w x) => (CellsAt.below hGa hx).c7)
      have hg := HGX.out wr HX.out.2.2
      clear hGa hGw hAw
      have hbne : b ≠ w.heap.size + 1 := by omega
      have hbne2 : w.heap.size + 1 ≠ b := by omega
      rcases (show A.null = true ∨ A.null = false by cases A.null <;> simp) with hn | hn
      · skip
        go_upto_region 6 with fail
        have hr := HX.out.1
        have hr0 := HX.out.2.1
        have hb := HX.out.2.2
        have s1 := (hr.set 0 (.bool true))
        have s0 := (hr0.other (by omega : w.heap.size ≠ w.heap.size + 1) 0 (.bool true))
        have sb := (hb.setCell (p := ⟨w.heap.size + 1, 0, none⟩) (by show w.heap.size ≤ w.heap.size + 1; omega) (.bool true))
        generalize (wr.setCell ⟨w.heap.size + 1, 0, none⟩ (.bool true)) = y0 at s1 s0 sb ⊢
        clear hr hr0 hb q1 q0 hg
        have H0 : Hid (Row y0 (w.heap.size + 1) [.bool true, .int .i64 A.least, .int .i64 A.most, .int .u64 (A.first).a, .int .u64 (A.first).b, .int .u64 (A.first).c, .int .u64 (A.first).d] 69 ∧ Row y0 w.heap.size [.bool false, .int .i64 0, .int .i64 0, .int .u64 0, .int .u64 0, .int .u64 0, .int .u64 0] 69 ∧ Below w.heap.size w y0) := ⟨s1, s0, sb⟩
        clear s1 s0 sb
        have HC6 := hid (fun (x : World) (hx : Grow y0.drew x) => And.intro ((H0.out.1.drew.below hx H0.out.1.drew.lt).c7f) (HGX.out x ((H0.out.2.2.drew).trans (hx.mono H0.out.2.2.size))))
        refine wp_region_inv 8 (Grow) (by kernel_rfl) (by kernel_rfl) (Grow.refl) (fun _ _ _ => Grow.trans) ?_
        simp only [fill, dstOf, Act.put, List.take_succ_cons, List.take_zero, List.getElem?_toArray, List.getElem?_cons_zero, List.getElem?_cons_succ, Option.bind_some, List.setIfInBounds_toArray, List.set_cons_zero, List.set_cons_succ]
        refine Plan.det 1 rfl (Grow.refl) ?_
        apply Exists.intro
        refine ⟨fun vs x hR hF K hK => ?_, ?_⟩
        · clear hF
          go_simp
          exact hK _ _ (Grow.refl _) rfl
        refine Plan.det 2 rfl (Grow.refl) ?_
        apply Exists.intro
        refine ⟨fun vs x hR hF K hK => ?_, ?_⟩
        · have f0 := hF 0 _ _ rfl rfl; have hc := HC6.out x hR; clear hF
          go_simp
          exact hK _ _ (Grow.refl _) rfl
        refine Plan.det 3 rfl (Grow.refl) ?_
        apply Exists.intro
        refine ⟨fun vs x hR hF K hK => ?_, ?_⟩
        · clear hF
          go_simp
          exact hK _ _ (Grow.refl _) rfl
        refine Plan.det 4 rfl (Grow.refl) ?_
        apply Exists.intro
        refine ⟨fun vs x hR hF K hK => ?_, ?_⟩
        · clear hF
          go_simp
          exact hK _ _ (Grow.refl _) rfl
        refine Plan.det 5 rfl (Grow.refl) ?_
        apply Exists.intro
        refine ⟨fun vs x hR hF K hK => ?_, ?_⟩
        · have f2 := hF 1 _ _ rfl rfl; have f3 := hF 0 _ _ rfl rfl; clear hF
          go_simp
          exact hK _ _ (Grow.refl _) rfl
        refine Plan.det 6 rfl (Grow.refl) ?_
        apply Exists.intro
        refine ⟨fun vs x hR hF K hK => ?_, ?_⟩
        · have f4 := hF 0 _ _ rfl rfl; clear hF
          go_simp
          exact hK _ _ (Grow.refl _) rfl
        refine Plan.det 7 rfl (Grow.refl) ?_
        apply Exists.intro
        refine ⟨fun vs x hR hF K hK => ?_, ?_⟩
        · have f5 := hF 0 _ _ rfl rfl; have hc := HC6.out x hR; clear hF
          go_simp
          exact hK _ _ (Grow.refl _) rfl
        refine Plan.det 8 rfl (Grow.refl) ?_
        apply Exists.intro
        refine ⟨fun vs x hR hF K hK => ?_, ?_⟩
        · have f1 := hF 5 _ _ rfl rfl; have f6 := hF 0 _ _ rfl rfl; clear hF
          go_simp
          refine (UnionRef_any A.first G.first x HAW.out.first HGW.out.first).mono ?_
          rintro e x1 ⟨rfl, hbe⟩
          exact ⟨_, rfl, hK _ _ hbe rfl⟩
        refine Plan.nil (fun vs x hR hF => ?_)
        have f0 := hF 7 _ _ rfl; have f1 := hF 6 _ _ rfl; have f2 := hF 5 _ _ rfl; have f3 := hF 4 _ _ rfl; have f4 := hF 3 _ _ rfl; have f5 := hF 2 _ _ rfl; have f6 := hF 1 _ _ rfl; have f7 := hF 0 _ _ rfl
        clear hF
        simp only [f0, f1, f2, f3, f4, f5, f6, f7]
        clear f0 f1 f2 f3 f4 f5 f6 f7
        simp only [List.drop_succ_cons, List.drop_zero]
        have hr := H0.out.1.drew.below hR H0.out.1.drew.lt
        have hr0 := H0.out.2.1.drew.below hR H0.out.2.1.drew.lt
        have hb := H0.out.2.2.drew.trans (hR.mono H0.out.2.2.size)
        have q6 := hr.c7f
        have z6 := hr.lt
        clear hR HC6
        go_upto_region 7 with fail
        have s1 := ((((hr.set 3 (.int .u64 (A.first.union G.first).a)).set 4 (.int .u64 (A.first.union G.first).b)).set 5 (.int .u64 (A.first.union G.first).c)).set 6 (.int .u64 (A.first.union G.first).d))
        have s0 := ((((hr0.other (by omega : w.heap.size ≠ w.heap.size + 1) 3 (.int .u64 (A.first.union G.first).a)).other (by omega : w.heap.size ≠ w.heap.size + 1) 4 (.int .u64 (A.first.union G.first).b)).other (by omega : w.heap.size ≠ w.heap.size + 1) 5 (.int .u64 (A.first.union G.first).c)).other (by omega : w.heap.size ≠ w.heap.size + 1) 6 (.int .u64 (A.first.union G.first).d))
        have sb := ((((hb.setCell (p := ⟨w.heap.size + 1, 3, none⟩) (by show w.heap.size ≤ w.heap.size + 1; omega) (.int .u64 (A.first.union G.first).a)).setCell (p := ⟨w.heap.size + 1, 4, none⟩) (by show w.heap.size ≤ w.heap.size + 1; omega) (.int .u64 (A.first.union G.first).b)).setCell (p := ⟨w.heap.size + 1, 5, none⟩) (by show w.heap.size ≤ w.heap.size + 1; omega) (.int .u64 (A.first.union G.first).c)).setCell (p := ⟨w.heap.size + 1, 6, none⟩) (by show w.heap.size ≤ w.heap.size + 1; omega) (.int .u64 (A.first.union G.first).d))
        generalize ((((x.setCell ⟨w.heap.size + 1, 3, none⟩ (.int .u64 (A.first.union G.first).a)).setCell ⟨w.heap.size + 1, 4, none⟩ (.int .u64 (A.first.union G.first).b)).setCell ⟨w.heap.size + 1, 5, none⟩ (.int .u64 (A.first.union G.first).c)).setCell ⟨w.heap.size + 1, 6, none⟩ (.int .u64 (A.first.union G.first).d)) = y1 at s1 s0 sb ⊢
        clear hr hr0 hb q6 z6
        have H1 : Hid (Row y1 (w.heap.size + 1) [.bool true, .int .i64 A.least, .int .i64 A.most, .int .u64 (A.first.union G.first).a, .int .u64 (A.first.union G.first).b, .int .u64 (A.first.union G.first).c, .int .u64 (A.first.union G.first).d] 69 ∧ Row y1 w.heap.size [.bool false, .int .i64 0, .int .i64 0, .int .u64 0, .int .u64 0, .int .u64 0, .int .u64 0] 69 ∧ Below w.heap.size w y1) := ⟨s1, s0, sb⟩
        clear s1 s0 sb
        have q7 := H1.out.1.c7f
        have z7 := H1.out.1.lt
        have g7 := HGX.out y1 H1.out.2.2
        rcases (show decide (G.least < A.least) = true ∨ decide (G.least < A.least) = false by cases decide (G.least < A.least) <;> simp) with dl | dl
        · skip
          have HDL := hid dl
          go_quiet (fail)
          have hd := below_drewN (Below.refl y1.heap.size y1) nq
          have hr := H1.out.1.below hd H1.out.1.lt
          have hr0 := H1.out.2.1.below hd H1.out.2.1.lt
          have hb := H1.out.2.2.trans (hd.mono H1.out.2.2.size)
          clear hd q7 z7 g7
          generalize y1.drewN nq = yd at hr hr0 hb ⊢
          have g8 := HGX.out yd hb
          have q8 := hr.c7f
          have z8 := hr.lt
          go_upto_region 9 with fail
          have s1 := (hr.set 1 (.int .i64 G.least))
          have s0 := (hr0.other (by omega : w.heap.size ≠ w.heap.size + 1) 1 (.int .i64 G.least))
          have sb := (hb.setCell (p := ⟨w.heap.size + 1, 1, none⟩) (by show w.heap.size ≤ w.heap.size + 1; omega) (.int .i64 G.least))
          generalize (yd.setCell ⟨w.heap.size + 1, 1, none⟩ (.int .i64 G.least)) = y2 at s1 s0 sb ⊢
          clear hr hr0 hb q8 z8 g8 dl
          have H2 : Hid (Row y2 (w.heap.size + 1) [.bool true, .int .i64 G.least, .int .i64 A.most, .int .u64 (A.first.union G.first).a, .int .u64 (A.first.union G.first).b, .int .u64 (A.first.union G.first).c, .int .u64 (A.first.union G.first).d] 69 ∧ Row y2 w.heap.size [.bool false, .int .i64 0, .int .i64 0, .int .u64 0, .int .u64 0, .int .u64 0, .int .u64 0] 69 ∧ Below w.heap.size w y2) := ⟨s1, s0, sb⟩
          clear s1 s0 sb
          have q9 := H2.out.1.c7f
          have z9 := H2.out.1.lt
          have g9 := HGX.out y2 H2.out.2.2
          rcases (show decide (0 ≤ A.most) = true ∨ decide (0 ≤ A.most) = false by cases decide (0 ≤ A.most) <;> simp) with m1 | m1
          · skip
            rcases (show decide (G.most < 0) = true ∨ decide (G.most < 0) = false by cases decide (G.most < 0) <;> simp) with m2 | m2
            · skip
              have HE : Hid ((A.alt G).cells = [.bool true, .int .i64 G.least, .int .i64 G.most, .int .u64 (A.first.union G.first).a, .int .u64 (A.first.union G.first).b, .int .u64 (A.first.union G.first).c, .int .u64 (A.first.union G.first).d]) := by
                have l1 := HAW.out.most
                have l2 := HGW.out.most
                have l3 := of_decide_eq_true HDL.out
                unfold Len at l1 l2
                have km1 := of_decide_eq_true m1
                have km2 := of_decide_eq_true m2
                have e1 : (A.null || G.null) = true := by simp [hn]
                have e2 : min A.least G.least = G.least := by omega
                have e3 : (if A.most < 0 ∨ G.most < 0 then (-1 : Int) else max A.most G.most) = G.most := by split <;> omega
                show ([.bool (A.null || G.null), .int .i64 (min A.least G.least), .int .i64 (if A.most < 0 ∨ G.most < 0 then (-1 : Int) else max A.most G.most), .int .u64 (A.first.union G.first).a, .int .u64 (A.first.union G.first).b, .int .u64 (A.first.union G.first).c, .int .u64 (A.first.union G.first).d] : List Value) = _
                rw [e1, e2, e3]
              go_quiet (fail)
              have hd := below_drewN (Below.refl y2.heap.size y2) nq
              have hr := H2.out.1.below hd H2.out.1.lt
              have hr0 := H2.out.2.1.below hd H2.out.2.1.lt
              have hb := H2.out.2.2.trans (hd.mono H2.out.2.2.size)
              clear hd q9 z9 g9
              generalize y2.drewN nq = ye at hr hr0 hb ⊢
              have g10 := HGX.out ye hb
              have q10 := hr.c7f
              have z10 := hr.lt
              go_wp2_with fail
              go_roundw
              case rel =>
                refine ⟨k + 1, A.alt G, by omega, by omega, by go_num, Facts.alt_wf HAW.out HGW.out, by rw [hTk.out, ← hA.out]; exact rfl, ?_, hr0.other (by omega) _ _, hb.setCell (by show w.heap.size ≤ w.heap.size + 1; omega) _⟩
                rw [HE.out]
                exact hr.set 2 _
              case measure => simp [intOf]; omega
            · skip
              rcases (show decide (A.most < G.most) = true ∨ decide (A.most < G.most) = false by cases decide (A.most < G.most) <;> simp) with m3 | m3
              · skip
                have HE : Hid ((A.alt G).cells = [.bool true, .int .i64 G.least, .int .i64 G.most, .int .u64 (A.first.union G.first).a, .int .u64 (A.first.union G.first).b, .int .u64 (A.first.union G.first).c, .int .u64 (A.first.union G.first).d]) := by
                  have l1 := HAW.out.most
                  have l2 := HGW.out.most
                  have l3 := of_decide_eq_true HDL.out
                  unfold Len at l1 l2
                  have km1 := of_decide_eq_true m1
                  have km2 := of_decide_eq_false m2
                  have km3 := of_decide_eq_true m3
                  have e1 : (A.null || G.null) = true := by simp [hn]
                  have e2 : min A.least G.least = G.least := by omega
                  have e3 : (if A.most < 0 ∨ G.most < 0 then (-1 : Int) else max A.most G.most) = G.most := by split <;> omega
                  show ([.bool (A.null || G.null), .int .i64 (min A.least G.least), .int .i64 (if A.most < 0 ∨ G.most < 0 then (-1 : Int) else max A.most G.most), .int .u64 (A.first.union G.first).a, .int .u64 (A.first.union G.first).b, .int .u64 (A.first.union G.first).c, .int .u64 (A.first.union G.first).d] : List Value) = _
                  rw [e1, e2, e3]
                go_quiet (fail)
                have hd := below_drewN (Below.refl y2.heap.size y2) nq
                have hr := H2.out.1.below hd H2.out.1.lt
                have hr0 := H2.out.2.1.below hd H2.out.2.1.lt
                have hb := H2.out.2.2.trans (hd.mono H2.out.2.2.size)
                clear hd q9 z9 g9
                generalize y2.drewN nq = ye at hr hr0 hb ⊢
                have g10 := HGX.out ye hb
                have q10 := hr.c7f
                have z10 := hr.lt
                go_wp2_with fail
                go_roundw
                case rel =>
                  refine ⟨k + 1, A.alt G, by omega, by omega, by go_num, Facts.alt_wf HAW.out HGW.out, by rw [hTk.out, ← hA.out]; exact rfl, ?_, hr0.other (by omega) _ _, hb.setCell (by show w.heap.size ≤ w.heap.size + 1; omega) _⟩
                  rw [HE.out]
                  exact hr.set 2 _
                case measure => simp [intOf]; omega
              · skip
                have HE : Hid ((A.alt G).cells = [.bool true, .int .i64 G.least, .int .i64 A.most, .int .u64 (A.first.union G.first).a, .int .u64 (A.first.union G.first).b, .int .u64 (A.first.union G.first).c, .int .u64 (A.first.union G.first).d]) := by
                  have l1 := HAW.out.most
                  have l2 := HGW.out.most
                  have l3 := of_decide_eq_true HDL.out
                  unfold Len at l1 l2
                  have km1 := of_decide_eq_true m1
                  have km2 := of_decide_eq_false m2
                  have km3 := of_decide_eq_false m3
                  have e1 : (A.null || G.null) = true := by simp [hn]
                  have e2 : min A.least G.least = G.least := by omega
                  have e3 : (if A.most < 0 ∨ G.most < 0 then (-1 : Int) else max A.most G.most) = A.most := by split <;> omega
                  show ([.bool (A.null || G.null), .int .i64 (min A.least G.least), .int .i64 (if A.most < 0 ∨ G.most < 0 then (-1 : Int) else max A.most G.most), .int .u64 (A.first.union G.first).a, .int .u64 (A.first.union G.first).b, .int .u64 (A.first.union G.first).c, .int .u64 (A.first.union G.first).d] : List Value) = _
                  rw [e1, e2, e3]
                go_quiet (fail)
                have hd := below_drewN (Below.refl y2.heap.size y2) nq
                have hr := H2.out.1.below hd H2.out.1.lt
                have hr0 := H2.out.2.1.below hd H2.out.2.1.lt
                have hb := H2.out.2.2.trans (hd.mono H2.out.2.2.size)
                clear hd q9 z9 g9
                generalize y2.drewN nq = ye at hr hr0 hb ⊢
                go_wp2_with fail
                go_roundw
                case rel =>
                  refine ⟨k + 1, A.alt G, by omega, by omega, by go_num, Facts.alt_wf HAW.out HGW.out, by rw [hTk.out, ← hA.out]; exact rfl, ?_, hr0, hb⟩
                  rw [HE.out]
                  exact hr
                case measure => simp [intOf]; omega
          · skip
            have HE : Hid ((A.alt G).cells = [.bool true, .int .i64 G.least, .int .i64 A.most, .int .u64 (A.first.union G.first).a, .int .u64 (A.first.union G.first).b, .int .u64 (A.first.union G.first).c, .int .u64 (A.first.union G.first).d]) := by
              have l1 := HAW.out.most
              have l2 := HGW.out.most
              have l3 := of_decide_eq_true HDL.out
              unfold Len at l1 l2
              have km1 := of_decide_eq_false m1
              have e1 : (A.null || G.null) = true := by simp [hn]
              have e2 : min A.least G.least = G.least := by omega
              have e3 : (if A.most < 0 ∨ G.most < 0 then (-1 : Int) else max A.most G.most) = A.most := by split <;> omega
              show ([.bool (A.null || G.null), .int .i64 (min A.least G.least), .int .i64 (if A.most < 0 ∨ G.most < 0 then (-1 : Int) else max A.most G.most), .int .u64 (A.first.union G.first).a, .int .u64 (A.first.union G.first).b, .int .u64 (A.first.union G.first).c, .int .u64 (A.first.union G.first).d] : List Value) = _
              rw [e1, e2, e3]
            go_quiet (fail)
            have hd := below_drewN (Below.refl y2.heap.size y2) nq
            have hr := H2.out.1.below hd H2.out.1.lt
            have hr0 := H2.out.2.1.below hd H2.out.2.1.lt
            have hb := H2.out.2.2.trans (hd.mono H2.out.2.2.size)
            clear hd q9 z9 g9
            generalize y2.drewN nq = ye at hr hr0 hb ⊢
            go_wp2_with fail
            go_roundw
            case rel =>
              refine ⟨k + 1, A.alt G, by omega, by omega, by go_num, Facts.alt_wf HAW.out HGW.out, by rw [hTk.out, ← hA.out]; exact rfl, ?_, hr0, hb⟩
              rw [HE.out]
              exact hr
            case measure => simp [intOf]; omega
        · skip
          have HDL := hid dl
          go_quiet (fail)
          have hd := below_drewN (Below.refl y1.heap.size y1) nq
          have hr := H1.out.1.below hd H1.out.1.lt
          have hr0 := H1.out.2.1.below hd H1.out.2.1.lt
          have hb := H1.out.2.2.trans (hd.mono H1.out.2.2.size)
          clear hd q7 z7 g7
          generalize y1.drewN nq = yd at hr hr0 hb ⊢
          have s1 := hr
          have s0 := hr0
          have sb := hb
          clear hr hr0 hb dl
          generalize yd = y2 at *
          go_upto_region 9 with fail
          have H2 : Hid (Row y2 (w.heap.size + 1) [.bool true, .int .i64 A.least, .int .i64 A.most, .int .u64 (A.first.union G.first).a, .int .u64 (A.first.union G.first).b, .int .u64 (A.first.union G.first).c, .int .u64 (A.first.union G.first).d] 69 ∧ Row y2 w.heap.size [.bool false, .int .i64 0, .int .i64 0, .int .u64 0, .int .u64 0, .int .u64 0, .int .u64 0] 69 ∧ Below w.heap.size w y2) := ⟨s1, s0, sb⟩
          clear s1 s0 sb
          have q9 := H2.out.1.c7f
          have z9 := H2.out.1.lt
          have g9 := HGX.out y2 H2.out.2.2
          rcases (show decide (0 ≤ A.most) = true ∨ decide (0 ≤ A.most) = false by cases decide (0 ≤ A.most) <;> simp) with m1 | m1
          · skip
            rcases (show decide (G.most < 0) = true ∨ decide (G.most < 0) = false by cases decide (G.most < 0) <;> simp) with m2 | m2
            · skip
              have HE : Hid ((A.alt G).cells = [.bool true, .int .i64 A.least, .int .i64 G.most, .int .u64 (A.first.union G.first).a, .int .u64 (A.first.union G.first).b, .int .u64 (A.first.union G.first).c, .int .u64 (A.first.union G.first).d]) := by
                have l1 := HAW.out.most
                have l2 := HGW.out.most
                have l3 := of_decide_eq_false HDL.out
                unfold Len at l1 l2
                have km1 := of_decide_eq_true m1
                have km2 := of_decide_eq_true m2
                have e1 : (A.null || G.null) = true := by simp [hn]
                have e2 : min A.least G.least = A.least := by omega
                have e3 : (if A.most < 0 ∨ G.most < 0 then (-1 : Int) else max A.most G.most) = G.most := by split <;> omega
                show ([.bool (A.null || G.null), .int .i64 (min A.least G.least), .int .i64 (if A.most < 0 ∨ G.most < 0 then (-1 : Int) else max A.most G.most), .int .u64 (A.first.union G.first).a, .int .u64 (A.first.union G.first).b, .int .u64 (A.first.union G.first).c, .int .u64 (A.first.union G.first).d] : List Value) = _
                rw [e1, e2, e3]
              go_quiet (fail)
              have hd := below_drewN (Below.refl y2.heap.size y2) nq
              have hr := H2.out.1.below hd H2.out.1.lt
              have hr0 := H2.out.2.1.below hd H2.out.2.1.lt
              have hb := H2.out.2.2.trans (hd.mono H2.out.2.2.size)
              clear hd q9 z9 g9
              generalize y2.drewN nq = ye at hr hr0 hb ⊢
              have g10 := HGX.out ye hb
              have q10 := hr.c7f
              have z10 := hr.lt
              go_wp2_with fail
              go_roundw
              case rel =>
                refine ⟨k + 1, A.alt G, by omega, by omega, by go_num, Facts.alt_wf HAW.out HGW.out, by rw [hTk.out, ← hA.out]; exact rfl, ?_, hr0.other (by omega) _ _, hb.setCell (by show w.heap.size ≤ w.heap.size + 1; omega) _⟩
                rw [HE.out]
                exact hr.set 2 _
              case measure => simp [intOf]; omega
            · skip
              rcases (show decide (A.most < G.most) = true ∨ decide (A.most < G.most) = false by cases decide (A.most < G.most) <;> simp) with m3 | m3
              · skip
                have HE : Hid ((A.alt G).cells = [.bool true, .int .i64 A.least, .int .i64 G.most, .int .u64 (A.first.union G.first).a, .int .u64 (A.first.union G.first).b, .int .u64 (A.first.union G.first).c, .int .u64 (A.first.union G.first).d]) := by
                  have l1 := HAW.out.most
                  have l2 := HGW.out.most
                  have l3 := of_decide_eq_false HDL.out
                  unfold Len at l1 l2
                  have km1 := of_decide_eq_true m1
                  have km2 := of_decide_eq_false m2
                  have km3 := of_decide_eq_true m3
                  have e1 : (A.null || G.null) = true := by simp [hn]
                  have e2 : min A.least G.least = A.least := by omega
                  have e3 : (if A.most < 0 ∨ G.most < 0 then (-1 : Int) else max A.most G.most) = G.most := by split <;> omega
                  show ([.bool (A.null || G.null), .int .i64 (min A.least G.least), .int .i64 (if A.most < 0 ∨ G.most < 0 then (-1 : Int) else max A.most G.most), .int .u64 (A.first.union G.first).a, .int .u64 (A.first.union G.first).b, .int .u64 (A.first.union G.first).c, .int .u64 (A.first.union G.first).d] : List Value) = _
                  rw [e1, e2, e3]
                go_quiet (fail)
                have hd := below_drewN (Below.refl y2.heap.size y2) nq
                have hr := H2.out.1.below hd H2.out.1.lt
                have hr0 := H2.out.2.1.below hd H2.out.2.1.lt
                have hb := H2.out.2.2.trans (hd.mono H2.out.2.2.size)
                clear hd q9 z9 g9
                generalize y2.drewN nq = ye at hr hr0 hb ⊢
                have g10 := HGX.out ye hb
                have q10 := hr.c7f
                have z10 := hr.lt
                go_wp2_with fail
                go_roundw
                case rel =>
                  refine ⟨k + 1, A.alt G, by omega, by omega, by go_num, Facts.alt_wf HAW.out HGW.out, by rw [hTk.out, ← hA.out]; exact rfl, ?_, hr0.other (by omega) _ _, hb.setCell (by show w.heap.size ≤ w.heap.size + 1; omega) _⟩
                  rw [HE.out]
                  exact hr.set 2 _
                case measure => simp [intOf]; omega
              · skip
                have HE : Hid ((A.alt G).cells = [.bool true, .int .i64 A.least, .int .i64 A.most, .int .u64 (A.first.union G.first).a, .int .u64 (A.first.union G.first).b, .int .u64 (A.first.union G.first).c, .int .u64 (A.first.union G.first).d]) := by
                  have l1 := HAW.out.most
                  have l2 := HGW.out.most
                  have l3 := of_decide_eq_false HDL.out
                  unfold Len at l1 l2
                  have km1 := of_decide_eq_true m1
                  have km2 := of_decide_eq_false m2
                  have km3 := of_decide_eq_false m3
                  have e1 : (A.null || G.null) = true := by simp [hn]
                  have e2 : min A.least G.least = A.least := by omega
                  have e3 : (if A.most < 0 ∨ G.most < 0 then (-1 : Int) else max A.most G.most) = A.most := by split <;> omega
                  show ([.bool (A.null || G.null), .int .i64 (min A.least G.least), .int .i64 (if A.most < 0 ∨ G.most < 0 then (-1 : Int) else max A.most G.most), .int .u64 (A.first.union G.first).a, .int .u64 (A.first.union G.first).b, .int .u64 (A.first.union G.first).c, .int .u64 (A.first.union G.first).d] : List Value) = _
                  rw [e1, e2, e3]
                go_quiet (fail)
                have hd := below_drewN (Below.refl y2.heap.size y2) nq
                have hr := H2.out.1.below hd H2.out.1.lt
                have hr0 := H2.out.2.1.below hd H2.out.2.1.lt
                have hb := H2.out.2.2.trans (hd.mono H2.out.2.2.size)
                clear hd q9 z9 g9
                generalize y2.drewN nq = ye at hr hr0 hb ⊢
                go_wp2_with fail
                go_roundw
                case rel =>
                  refine ⟨k + 1, A.alt G, by omega, by omega, by go_num, Facts.alt_wf HAW.out HGW.out, by rw [hTk.out, ← hA.out]; exact rfl, ?_, hr0, hb⟩
                  rw [HE.out]
                  exact hr
                case measure => simp [intOf]; omega
          · skip
            have HE : Hid ((A.alt G).cells = [.bool true, .int .i64 A.least, .int .i64 A.most, .int .u64 (A.first.union G.first).a, .int .u64 (A.first.union G.first).b, .int .u64 (A.first.union G.first).c, .int .u64 (A.first.union G.first).d]) := by
              have l1 := HAW.out.most
              have l2 := HGW.out.most
              have l3 := of_decide_eq_false HDL.out
              unfold Len at l1 l2
              have km1 := of_decide_eq_false m1
              have e1 : (A.null || G.null) = true := by simp [hn]
              have e2 : min A.least G.least = A.least := by omega
              have e3 : (if A.most < 0 ∨ G.most < 0 then (-1 : Int) else max A.most G.most) = A.most := by split <;> omega
              show ([.bool (A.null || G.null), .int .i64 (min A.least G.least), .int .i64 (if A.most < 0 ∨ G.most < 0 then (-1 : Int) else max A.most G.most), .int .u64 (A.first.union G.first).a, .int .u64 (A.first.union G.first).b, .int .u64 (A.first.union G.first).c, .int .u64 (A.first.union G.first).d] : List Value) = _
              rw [e1, e2, e3]
            go_quiet (fail)
            have hd := below_drewN (Below.refl y2.heap.size y2) nq
            have hr := H2.out.1.below hd H2.out.1.lt
            have hr0 := H2.out.2.1.below hd H2.out.2.1.lt
            have hb := H2.out.2.2.trans (hd.mono H2.out.2.2.size)
            clear hd q9 z9 g9
            generalize y2.drewN nq = ye at hr hr0 hb ⊢
            go_wp2_with fail
            go_roundw
            case rel =>
              refine ⟨k + 1, A.alt G, by omega, by omega, by go_num, Facts.alt_wf HAW.out HGW.out, by rw [hTk.out, ← hA.out]; exact rfl, ?_, hr0, hb⟩
              rw [HE.out]
              exact hr
            case measure => simp [intOf]; omega
      · skip
        go_upto_region 6 with fail
        have hr := HX.out.1
        have hr0 := HX.out.2.1
        have hb := HX.out.2.2
        have s1 := (hr.set 0 (.bool G.null))
        have s0 := (hr0.other (by omega : w.heap.size ≠ w.heap.size + 1) 0 (.bool G.null))
        have sb := (hb.setCell (p := ⟨w.heap.size + 1, 0, none⟩) (by show w.heap.size ≤ w.heap.size + 1; omega) (.bool G.null))
        generalize (wr.setCell ⟨w.heap.size + 1, 0, none⟩ (.bool G.null)) = y0 at s1 s0 sb ⊢
        clear hr hr0 hb q1 q0 hg
        have H0 : Hid (Row y0 (w.heap.size + 1) [.bool G.null, .int .i64 A.least, .int .i64 A.most, .int .u64 (A.first).a, .int .u64 (A.first).b, .int .u64 (A.first).c, .int .u64 (A.first).d] 69 ∧ Row y0 w.heap.size [.bool false, .int .i64 0, .int .i64 0, .int .u64 0, .int .u64 0, .int .u64 0, .int .u64 0] 69 ∧ Below w.heap.size w y0) := ⟨s1, s0, sb⟩
        clear s1 s0 sb
        have HC6 := hid (fun (x : World) (hx : Grow y0.drew x) => And.intro ((H0.out.1.drew.below hx H0.out.1.drew.lt).c7f) (HGX.out x ((H0.out.2.2.drew).trans (hx.mono H0.out.2.2.size))))
        refine wp_region_inv 8 (Grow) (by kernel_rfl) (by kernel_rfl) (Grow.refl) (fun _ _ _ => Grow.trans) ?_
        simp only [fill, dstOf, Act.put, List.take_succ_cons, List.take_zero, List.getElem?_toArray, List.getElem?_cons_zero, List.getElem?_cons_succ, Option.bind_some, List.setIfInBounds_toArray, List.set_cons_zero, List.set_cons_succ]
        refine Plan.det 1 rfl (Grow.refl) ?_
        apply Exists.intro
        refine ⟨fun vs x hR hF K hK => ?_, ?_⟩
        · clear hF
          go_simp
          exact hK _ _ (Grow.refl _) rfl
        refine Plan.det 2 rfl (Grow.refl) ?_
        apply Exists.intro
        refine ⟨fun vs x hR hF K hK => ?_, ?_⟩
        · have f0 := hF 0 _ _ rfl rfl; have hc := HC6.out x hR; clear hF
          go_simp
          exact hK _ _ (Grow.refl _) rfl
        refine Plan.det 3 rfl (Grow.refl) ?_
        apply Exists.intro
        refine ⟨fun vs x hR hF K hK => ?_, ?_⟩
        · clear hF
          go_simp
          exact hK _ _ (Grow.refl _) rfl
        refine Plan.det 4 rfl (Grow.refl) ?_
        apply Exists.intro
        refine ⟨fun vs x hR hF K hK => ?_, ?_⟩
        · clear hF
          go_simp
          exact hK _ _ (Grow.refl _) rfl
        refine Plan.det 5 rfl (Grow.refl) ?_
        apply Exists.intro
        refine ⟨fun vs x hR hF K hK => ?_, ?_⟩
        · have f2 := hF 1 _ _ rfl rfl; have f3 := hF 0 _ _ rfl rfl; clear hF
          go_simp
          exact hK _ _ (Grow.refl _) rfl
        refine Plan.det 6 rfl (Grow.refl) ?_
        apply Exists.intro
        refine ⟨fun vs x hR hF K hK => ?_, ?_⟩
        · have f4 := hF 0 _ _ rfl rfl; clear hF
          go_simp
          exact hK _ _ (Grow.refl _) rfl
        refine Plan.det 7 rfl (Grow.refl) ?_
        apply Exists.intro
        refine ⟨fun vs x hR hF K hK => ?_, ?_⟩
        · have f5 := hF 0 _ _ rfl rfl; have hc := HC6.out x hR; clear hF
          go_simp
          exact hK _ _ (Grow.refl _) rfl
        refine Plan.det 8 rfl (Grow.refl) ?_
        apply Exists.intro
        refine ⟨fun vs x hR hF K hK => ?_, ?_⟩
        · have f1 := hF 5 _ _ rfl rfl; have f6 := hF 0 _ _ rfl rfl; clear hF
          go_simp
          refine (UnionRef_any A.first G.first x HAW.out.first HGW.out.first).mono ?_
          rintro e x1 ⟨rfl, hbe⟩
          exact ⟨_, rfl, hK _ _ hbe rfl⟩
        refine Plan.nil (fun vs x hR hF => ?_)
        have f0 := hF 7 _ _ rfl; have f1 := hF 6 _ _ rfl; have f2 := hF 5 _ _ rfl; have f3 := hF 4 _ _ rfl; have f4 := hF 3 _ _ rfl; have f5 := hF 2 _ _ rfl; have f6 := hF 1 _ _ rfl; have f7 := hF 0 _ _ rfl
        clear hF
        simp only [f0, f1, f2, f3, f4, f5, f6, f7]
        clear f0 f1 f2 f3 f4 f5 f6 f7
        simp only [List.drop_succ_cons, List.drop_zero]
        have hr := H0.out.1.drew.below hR H0.out.1.drew.lt
        have hr0 := H0.out.2.1.drew.below hR H0.out.2.1.drew.lt
        have hb := H0.out.2.2.drew.trans (hR.mono H0.out.2.2.size)
        have q6 := hr.c7f
        have z6 := hr.lt
        clear hR HC6
        go_upto_region 7 with fail
        have s1 := ((((hr.set 3 (.int .u64 (A.first.union G.first).a)).set 4 (.int .u64 (A.first.union G.first).b)).set 5 (.int .u64 (A.first.union G.first).c)).set 6 (.int .u64 (A.first.union G.first).d))
        have s0 := ((((hr0.other (by omega : w.heap.size ≠ w.heap.size + 1) 3 (.int .u64 (A.first.union G.first).a)).other (by omega : w.heap.size ≠ w.heap.size + 1) 4 (.int .u64 (A.first.union G.first).b)).other (by omega : w.heap.size ≠ w.heap.size + 1) 5 (.int .u64 (A.first.union G.first).c)).other (by omega : w.heap.size ≠ w.heap.size + 1) 6 (.int .u64 (A.first.union G.first).d))
        have sb := ((((hb.setCell (p := ⟨w.heap.size + 1, 3, none⟩) (by show w.heap.size ≤ w.heap.size + 1; omega) (.int .u64 (A.first.union G.first).a)).setCell (p := ⟨w.heap.size + 1, 4, none⟩) (by show w.heap.size ≤ w.heap.size + 1; omega) (.int .u64 (A.first.union G.first).b)).setCell (p := ⟨w.heap.size + 1, 5, none⟩) (by show w.heap.size ≤ w.heap.size + 1; omega) (.int .u64 (A.first.union G.first).c)).setCell (p := ⟨w.heap.size + 1, 6, none⟩) (by show w.heap.size ≤ w.heap.size + 1; omega) (.int .u64 (A.first.union G.first).d))
        generalize ((((x.setCell ⟨w.heap.size + 1, 3, none⟩ (.int .u64 (A.first.union G.first).a)).setCell ⟨w.heap.size + 1, 4, none⟩ (.int .u64 (A.first.union G.first).b)).setCell ⟨w.heap.size + 1, 5, none⟩ (.int .u64 (A.first.union G.first).c)).setCell ⟨w.heap.size + 1, 6, none⟩ (.int .u64 (A.first.union G.first).d)) = y1 at s1 s0 sb ⊢
        clear hr hr0 hb q6 z6
        have H1 : Hid (Row y1 (w.heap.size + 1) [.bool G.null, .int .i64 A.least, .int .i64 A.most, .int .u64 (A.first.union G.first).a, .int .u64 (A.first.union G.first).b, .int .u64 (A.first.union G.first).c, .int .u64 (A.first.union G.first).d] 69 ∧ Row y1 w.heap.size [.bool false, .int .i64 0, .int .i64 0, .int .u64 0, .int .u64 0, .int .u64 0, .int .u64 0] 69 ∧ Below w.heap.size w y1) := ⟨s1, s0, sb⟩
        clear s1 s0 sb
        have q7 := H1.out.1.c7f
        have z7 := H1.out.1.lt
        have g7 := HGX.out y1 H1.out.2.2
        rcases (show decide (G.least < A.least) = true ∨ decide (G.least < A.least) = false by cases decide (G.least < A.least) <;> simp) with dl | dl
        · skip
          have HDL := hid dl
          go_quiet (fail)
          have hd := below_drewN (Below.refl y1.heap.size y1) nq
          have hr := H1.out.1.below hd H1.out.1.lt
          have hr0 := H1.out.2.1.below hd H1.out.2.1.lt
          have hb := H1.out.2.2.trans (hd.mono H1.out.2.2.size)
          clear hd q7 z7 g7
          generalize y1.drewN nq = yd at hr hr0 hb ⊢
          have g8 := HGX.out yd hb
          have q8 := hr.c7f
          have z8 := hr.lt
          go_upto_region 9 with fail
          have s1 := (hr.set 1 (.int .i64 G.least))
          have s0 := (hr0.other (by omega : w.heap.size ≠ w.heap.size + 1) 1 (.int .i64 G.least))
          have sb := (hb.setCell (p := ⟨w.heap.size + 1, 1, none⟩) (by show w.heap.size ≤ w.heap.size + 1; omega) (.int .i64 G.least))
          generalize (yd.setCell ⟨w.heap.size + 1, 1, none⟩ (.int .i64 G.least)) = y2 at s1 s0 sb ⊢
          clear hr hr0 hb q8 z8 g8 dl
          have H2 : Hid (Row y2 (w.heap.size + 1) [.bool G.null, .int .i64 G.least, .int .i64 A.most, .int .u64 (A.first.union G.first).a, .int .u64 (A.first.union G.first).b, .int .u64 (A.first.union G.first).c, .int .u64 (A.first.union G.first).d] 69 ∧ Row y2 w.heap.size [.bool false, .int .i64 0, .int .i64 0, .int .u64 0, .int .u64 0, .int .u64 0, .int .u64 0] 69 ∧ Below w.heap.size w y2) := ⟨s1, s0, sb⟩
          clear s1 s0 sb
          have q9 := H2.out.1.c7f
          have z9 := H2.out.1.lt
          have g9 := HGX.out y2 H2.out.2.2
          rcases (show decide (0 ≤ A.most) = true ∨ decide (0 ≤ A.most) = false by cases decide (0 ≤ A.most) <;> simp) with m1 | m1
          · skip
            rcases (show decide (G.most < 0) = true ∨ decide (G.most < 0) = false by cases decide (G.most < 0) <;> simp) with m2 | m2
            · skip
              have HE : Hid ((A.alt G).cells = [.bool G.null, .int .i64 G.least, .int .i64 G.most, .int .u64 (A.first.union G.first).a, .int .u64 (A.first.union G.first).b, .int .u64 (A.first.union G.first).c, .int .u64 (A.first.union G.first).d]) := by
                have l1 := HAW.out.most
                have l2 := HGW.out.most
                have l3 := of_decide_eq_true HDL.out
                unfold Len at l1 l2
                have km1 := of_decide_eq_true m1
                have km2 := of_decide_eq_true m2
                have e1 : (A.null || G.null) = G.null := by simp [hn]
                have e2 : min A.least G.least = G.least := by omega
                have e3 : (if A.most < 0 ∨ G.most < 0 then (-1 : Int) else max A.most G.most) = G.most := by split <;> omega
                show ([.bool (A.null || G.null), .int .i64 (min A.least G.least), .int .i64 (if A.most < 0 ∨ G.most < 0 then (-1 : Int) else max A.most G.most), .int .u64 (A.first.union G.first).a, .int .u64 (A.first.union G.first).b, .int .u64 (A.first.union G.first).c, .int .u64 (A.first.union G.first).d] : List Value) = _
                rw [e1, e2, e3]
              go_quiet (fail)
              have hd := below_drewN (Below.refl y2.heap.size y2) nq
              have hr := H2.out.1.below hd H2.out.1.lt
              have hr0 := H2.out.2.1.below hd H2.out.2.1.lt
              have hb := H2.out.2.2.trans (hd.mono H2.out.2.2.size)
              clear hd q9 z9 g9
              generalize y2.drewN nq = ye at hr hr0 hb ⊢
              have g10 := HGX.out ye hb
              have q10 := hr.c7f
              have z10 := hr.lt
              go_wp2_with fail
              go_roundw
              case rel =>
                refine ⟨k + 1, A.alt G, by omega, by omega, by go_num, Facts.alt_wf HAW.out HGW.out, by rw [hTk.out, ← hA.out]; exact rfl, ?_, hr0.other (by omega) _ _, hb.setCell (by show w.heap.size ≤ w.heap.size + 1; omega) _⟩
                rw [HE.out]
                exact hr.set 2 _
              case measure => simp [intOf]; omega
            · skip
              rcases (show decide (A.most < G.most) = true ∨ decide (A.most < G.most) = false by cases decide (A.most < G.most) <;> simp) with m3 | m3
              · skip
                have HE : Hid ((A.alt G).cells = [.bool G.null, .int .i64 G.least, .int .i64 G.most, .int .u64 (A.first.union G.first).a, .int .u64 (A.first.union G.first).b, .int .u64 (A.first.union G.first).c, .int .u64 (A.first.union G.first).d]) := by
                  have l1 := HAW.out.most
                  have l2 := HGW.out.most
                  have l3 := of_decide_eq_true HDL.out
                  unfold Len at l1 l2
                  have km1 := of_decide_eq_true m1
                  have km2 := of_decide_eq_false m2
                  have km3 := of_decide_eq_true m3
                  have e1 : (A.null || G.null) = G.null := by simp [hn]
                  have e2 : min A.least G.least = G.least := by omega
                  have e3 : (if A.most < 0 ∨ G.most < 0 then (-1 : Int) else max A.most G.most) = G.most := by split <;> omega
                  show ([.bool (A.null || G.null), .int .i64 (min A.least G.least), .int .i64 (if A.most < 0 ∨ G.most < 0 then (-1 : Int) else max A.most G.most), .int .u64 (A.first.union G.first).a, .int .u64 (A.first.union G.first).b, .int .u64 (A.first.union G.first).c, .int .u64 (A.first.union G.first).d] : List Value) = _
                  rw [e1, e2, e3]
                go_quiet (fail)
                have hd := below_drewN (Below.refl y2.heap.size y2) nq
                have hr := H2.out.1.below hd H2.out.1.lt
                have hr0 := H2.out.2.1.below hd H2.out.2.1.lt
                have hb := H2.out.2.2.trans (hd.mono H2.out.2.2.size)
                clear hd q9 z9 g9
                generalize y2.drewN nq = ye at hr hr0 hb ⊢
                have g10 := HGX.out ye hb
                have q10 := hr.c7f
                have z10 := hr.lt
                go_wp2_with fail
                go_roundw
                case rel =>
                  refine ⟨k + 1, A.alt G, by omega, by omega, by go_num, Facts.alt_wf HAW.out HGW.out, by rw [hTk.out, ← hA.out]; exact rfl, ?_, hr0.other (by omega) _ _, hb.setCell (by show w.heap.size ≤ w.heap.size + 1; omega) _⟩
                  rw [HE.out]
                  exact hr.set 2 _
                case measure => simp [intOf]; omega
              · skip
                have HE : Hid ((A.alt G).cells = [.bool G.null, .int .i64 G.least, .int .i64 A.most, .int .u64 (A.first.union G.first).a, .int .u64 (A.first.union G.first).b, .int .u64 (A.first.union G.first).c, .int .u64 (A.first.union G.first).d]) := by
                  have l1 := HAW.out.most
                  have l2 := HGW.out.most
                  have l3 := of_decide_eq_true HDL.out
                  unfold Len at l1 l2
                  have km1 := of_decide_eq_true m1
                  have km2 := of_decide_eq_false m2
                  have km3 := of_decide_eq_false m3
                  have e1 : (A.null || G.null) = G.null := by simp [hn]
                  have e2 : min A.least G.least = G.least := by omega
                  have e3 : (if A.most < 0 ∨ G.most < 0 then (-1 : Int) else max A.most G.most) = A.most := by split <;> omega
                  show ([.bool (A.null || G.null), .int .i64 (min A.least G.least), .int .i64 (if A.most < 0 ∨ G.most < 0 then (-1 : Int) else max A.most G.most), .int .u64 (A.first.union G.first).a, .int .u64 (A.first.union G.first).b, .int .u64 (A.first.union G.first).c, .int .u64 (A.first.union G.first).d] : List Value) = _
                  rw [e1, e2, e3]
                go_quiet (fail)
                have hd := below_drewN (Below.refl y2.heap.size y2) nq
                have hr := H2.out.1.below hd H2.out.1.lt
                have hr0 := H2.out.2.1.below hd H2.out.2.1.lt
                have hb := H2.out.2.2.trans (hd.mono H2.out.2.2.size)
                clear hd q9 z9 g9
                generalize y2.drewN nq = ye at hr hr0 hb ⊢
                go_wp2_with fail
                go_roundw
                case rel =>
                  refine ⟨k + 1, A.alt G, by omega, by omega, by go_num, Facts.alt_wf HAW.out HGW.out, by rw [hTk.out, ← hA.out]; exact rfl, ?_, hr0, hb⟩
                  rw [HE.out]
                  exact hr
                case measure => simp [intOf]; omega
          · skip
            have HE : Hid ((A.alt G).cells = [.bool G.null, .int .i64 G.least, .int .i64 A.most, .int .u64 (A.first.union G.first).a, .int .u64 (A.first.union G.first).b, .int .u64 (A.first.union G.first).c, .int .u64 (A.first.union G.first).d]) := by
              have l1 := HAW.out.most
              have l2 := HGW.out.most
              have l3 := of_decide_eq_true HDL.out
              unfold Len at l1 l2
              have km1 := of_decide_eq_false m1
              have e1 : (A.null || G.null) = G.null := by simp [hn]
              have e2 : min A.least G.least = G.least := by omega
              have e3 : (if A.most < 0 ∨ G.most < 0 then (-1 : Int) else max A.most G.most) = A.most := by split <;> omega
              show ([.bool (A.null || G.null), .int .i64 (min A.least G.least), .int .i64 (if A.most < 0 ∨ G.most < 0 then (-1 : Int) else max A.most G.most), .int .u64 (A.first.union G.first).a, .int .u64 (A.first.union G.first).b, .int .u64 (A.first.union G.first).c, .int .u64 (A.first.union G.first).d] : List Value) = _
              rw [e1, e2, e3]
            go_quiet (fail)
            have hd := below_drewN (Below.refl y2.heap.size y2) nq
            have hr := H2.out.1.below hd H2.out.1.lt
            have hr0 := H2.out.2.1.below hd H2.out.2.1.lt
            have hb := H2.out.2.2.trans (hd.mono H2.out.2.2.size)
            clear hd q9 z9 g9
            generalize y2.drewN nq = ye at hr hr0 hb ⊢
            go_wp2_with fail
            go_roundw
            case rel =>
              refine ⟨k + 1, A.alt G, by omega, by omega, by go_num, Facts.alt_wf HAW.out HGW.out, by rw [hTk.out, ← hA.out]; exact rfl, ?_, hr0, hb⟩
              rw [HE.out]
              exact hr
            case measure => simp [intOf]; omega
        · skip
          have HDL := hid dl
          go_quiet (fail)
          have hd := below_drewN (Below.refl y1.heap.size y1) nq
          have hr := H1.out.1.below hd H1.out.1.lt
          have hr0 := H1.out.2.1.below hd H1.out.2.1.lt
          have hb := H1.out.2.2.trans (hd.mono H1.out.2.2.size)
          clear hd q7 z7 g7
          generalize y1.drewN nq = yd at hr hr0 hb ⊢
          have s1 := hr
          have s0 := hr0
          have sb := hb
          clear hr hr0 hb dl
          generalize yd = y2 at *
          go_upto_region 9 with fail
          have H2 : Hid (Row y2 (w.heap.size + 1) [.bool G.null, .int .i64 A.least, .int .i64 A.most, .int .u64 (A.first.union G.first).a, .int .u64 (A.first.union G.first).b, .int .u64 (A.first.union G.first).c, .int .u64 (A.first.union G.first).d] 69 ∧ Row y2 w.heap.size [.bool false, .int .i64 0, .int .i64 0, .int .u64 0, .int .u64 0, .int .u64 0, .int .u64 0] 69 ∧ Below w.heap.size w y2) := ⟨s1, s0, sb⟩
          clear s1 s0 sb
          have q9 := H2.out.1.c7f
          have z9 := H2.out.1.lt
          have g9 := HGX.out y2 H2.out.2.2
          rcases (show decide (0 ≤ A.most) = true ∨ decide (0 ≤ A.most) = false by cases decide (0 ≤ A.most) <;> simp) with m1 | m1
          · skip
            rcases (show decide (G.most < 0) = true ∨ decide (G.most < 0) = false by cases decide (G.most < 0) <;> simp) with m2 | m2
            · skip
              have HE : Hid ((A.alt G).cells = [.bool G.null, .int .i64 A.least, .int .i64 G.most, .int .u64 (A.first.union G.first).a, .int .u64 (A.first.union G.first).b, .int .u64 (A.first.union G.first).c, .int .u64 (A.first.union G.first).d]) := by
                have l1 := HAW.out.most
                have l2 := HGW.out.most
                have l3 := of_decide_eq_false HDL.out
                unfold Len at l1 l2
                have km1 := of_decide_eq_true m1
                have km2 := of_decide_eq_true m2
                have e1 : (A.null || G.null) = G.null := by simp [hn]
                have e2 : min A.least G.least = A.least := by omega
                have e3 : (if A.most < 0 ∨ G.most < 0 then (-1 : Int) else max A.most G.most) = G.most := by split <;> omega
                show ([.bool (A.null || G.null), .int .i64 (min A.least G.least), .int .i64 (if A.most < 0 ∨ G.most < 0 then (-1 : Int) else max A.most G.most), .int .u64 (A.first.union G.first).a, .int .u64 (A.first.union G.first).b, .int .u64 (A.first.union G.first).c, .int .u64 (A.first.union G.first).d] : List Value) = _
                rw [e1, e2, e3]
              go_quiet (fail)
              have hd := below_drewN (Below.refl y2.heap.size y2) nq
              have hr := H2.out.1.below hd H2.out.1.lt
              have hr0 := H2.out.2.1.below hd H2.out.2.1.lt
              have hb := H2.out.2.2.trans (hd.mono H2.out.2.2.size)
              clear hd q9 z9 g9
              generalize y2.drewN nq = ye at hr hr0 hb ⊢
              have g10 := HGX.out ye hb
              have q10 := hr.c7f
              have z10 := hr.lt
              go_wp2_with fail
              go_roundw
              case rel =>
                refine ⟨k + 1, A.alt G, by omega, by omega, by go_num, Facts.alt_wf HAW.out HGW.out, by rw [hTk.out, ← hA.out]; exact rfl, ?_, hr0.other (by omega) _ _, hb.setCell (by show w.heap.size ≤ w.heap.size + 1; omega) _⟩
                rw [HE.out]
                exact hr.set 2 _
              case measure => simp [intOf]; omega
            · skip
              rcases (show decide (A.most < G.most) = true ∨ decide (A.most < G.most) = false by cases decide (A.most < G.most) <;> simp) with m3 | m3
              · skip
                have HE : Hid ((A.alt G).cells = [.bool G.null, .int .i64 A.least, .int .i64 G.most, .int .u64 (A.first.union G.first).a, .int .u64 (A.first.union G.first).b, .int .u64 (A.first.union G.first).c, .int .u64 (A.first.union G.first).d]) := by
                  have l1 := HAW.out.most
                  have l2 := HGW.out.most
                  have l3 := of_decide_eq_false HDL.out
                  unfold Len at l1 l2
                  have km1 := of_decide_eq_true m1
                  have km2 := of_decide_eq_false m2
                  have km3 := of_decide_eq_true m3
                  have e1 : (A.null || G.null) = G.null := by simp [hn]
                  have e2 : min A.least G.least = A.least := by omega
                  have e3 : (if A.most < 0 ∨ G.most < 0 then (-1 : Int) else max A.most G.most) = G.most := by split <;> omega
                  show ([.bool (A.null || G.null), .int .i64 (min A.least G.least), .int .i64 (if A.most < 0 ∨ G.most < 0 then (-1 : Int) else max A.most G.most), .int .u64 (A.first.union G.first).a, .int .u64 (A.first.union G.first).b, .int .u64 (A.first.union G.first).c, .int .u64 (A.first.union G.first).d] : List Value) = _
                  rw [e1, e2, e3]
                go_quiet (fail)
                have hd := below_drewN (Below.refl y2.heap.size y2) nq
                have hr := H2.out.1.below hd H2.out.1.lt
                have hr0 := H2.out.2.1.below hd H2.out.2.1.lt
                have hb := H2.out.2.2.trans (hd.mono H2.out.2.2.size)
                clear hd q9 z9 g9
                generalize y2.drewN nq = ye at hr hr0 hb ⊢
                have g10 := HGX.out ye hb
                have q10 := hr.c7f
                have z10 := hr.lt
                go_wp2_with fail
                go_roundw
                case rel =>
                  refine ⟨k + 1, A.alt G, by omega, by omega, by go_num, Facts.alt_wf HAW.out HGW.out, by rw [hTk.out, ← hA.out]; exact rfl, ?_, hr0.other (by omega) _ _, hb.setCell (by show w.heap.size ≤ w.heap.size + 1; omega) _⟩
                  rw [HE.out]
                  exact hr.set 2 _
                case measure => simp [intOf]; omega
              · skip
                have HE : Hid ((A.alt G).cells = [.bool G.null, .int .i64 A.least, .int .i64 A.most, .int .u64 (A.first.union G.first).a, .int .u64 (A.first.union G.first).b, .int .u64 (A.first.union G.first).c, .int .u64 (A.first.union G.first).d]) := by
                  have l1 := HAW.out.most
                  have l2 := HGW.out.most
                  have l3 := of_decide_eq_false HDL.out
                  unfold Len at l1 l2
                  have km1 := of_decide_eq_true m1
                  have km2 := of_decide_eq_false m2
                  have km3 := of_decide_eq_false m3
                  have e1 : (A.null || G.null) = G.null := by simp [hn]
                  have e2 : min A.least G.least = A.least := by omega
                  have e3 : (if A.most < 0 ∨ G.most < 0 then (-1 : Int) else max A.most G.most) = A.most := by split <;> omega
                  show ([.bool (A.null || G.null), .int .i64 (min A.least G.least), .int .i64 (if A.most < 0 ∨ G.most < 0 then (-1 : Int) else max A.most G.most), .int .u64 (A.first.union G.first).a, .int .u64 (A.first.union G.first).b, .int .u64 (A.first.union G.first).c, .int .u64 (A.first.union G.first).d] : List Value) = _
                  rw [e1, e2, e3]
                go_quiet (fail)
                have hd := below_drewN (Below.refl y2.heap.size y2) nq
                have hr := H2.out.1.below hd H2.out.1.lt
                have hr0 := H2.out.2.1.below hd H2.out.2.1.lt
                have hb := H2.out.2.2.trans (hd.mono H2.out.2.2.size)
                clear hd q9 z9 g9
                generalize y2.drewN nq = ye at hr hr0 hb ⊢
                go_wp2_with fail
                go_roundw
                case rel =>
                  refine ⟨k + 1, A.alt G, by omega, by omega, by go_num, Facts.alt_wf HAW.out HGW.out, by rw [hTk.out, ← hA.out]; exact rfl, ?_, hr0, hb⟩
                  rw [HE.out]
                  exact hr
                case measure => simp [intOf]; omega
          · skip
            have HE : Hid ((A.alt G).cells = [.bool G.null, .int .i64 A.least, .int .i64 A.most, .int .u64 (A.first.union G.first).a, .int .u64 (A.first.union G.first).b, .int .u64 (A.first.union G.first).c, .int .u64 (A.first.union G.first).d]) := by
              have l1 := HAW.out.most
              have l2 := HGW.out.most
              have l3 := of_decide_eq_false HDL.out
              unfold Len at l1 l2
              have km1 := of_decide_eq_false m1
              have e1 : (A.null || G.null) = G.null := by simp [hn]
              have e2 : min A.least G.least = A.least := by omega
              have e3 : (if A.most < 0 ∨ G.most < 0 then (-1 : Int) else max A.most G.most) = A.most := by split <;> omega
              show ([.bool (A.null || G.null), .int .i64 (min A.least G.least), .int .i64 (if A.most < 0 ∨ G.most < 0 then (-1 : Int) else max A.most G.most), .int .u64 (A.first.union G.first).a, .int .u64 (A.first.union G.first).b, .int .u64 (A.first.union G.first).c, .int .u64 (A.first.union G.first).d] : List Value) = _
              rw [e1, e2, e3]
            go_quiet (fail)
            have hd := below_drewN (Below.refl y2.heap.size y2) nq
            have hr := H2.out.1.below hd H2.out.1.lt
            have hr0 := H2.out.2.1.below hd H2.out.2.1.lt
            have hb := H2.out.2.2.trans (hd.mono H2.out.2.2.size)
            clear hd q9 z9 g9
            generalize y2.drewN nq = ye at hr hr0 hb ⊢
            go_wp2_with fail
            go_roundw
            case rel =>
              refine ⟨k + 1, A.alt G, by omega, by omega, by go_num, Facts.alt_wf HAW.out HGW.out, by rw [hTk.out, ← hA.out]; exact rfl, ?_, hr0, hb⟩
              rw [HE.out]
              exact hr
            case measure => simp [intOf]; omega
    · obtain rfl : k = l.length := by omega
      go_wp2_with fail
      refine ret_row 2 69 rfl w.heap.size rfl A.cells (CellsAt.of_row (T := 69) (HX.out.2.1.set7 _ _ _ _ _ _ _)) _ Try.underlying69 rfl (size_rfacts _ _ _ _ _ _ _) rfl ?_
      have hAe := hA.out
      rw [List.take_length] at hAe
      rw [← hAe]
      exact ⟨rfl, below7 HX.out.2.2 (Nat.le_refl _) _ _ _ _ _ _ _⟩
end Go.Proofs.Ytibfnmkeghkdpaa
