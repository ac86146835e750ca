/- The law RetreeLengths: its walk answers true. -/
import Derived.Test.YtibfnmkeghkdpaaMakeGo
import Derived.Test.YtibfnmkeghkdpaaBounds
namespace Go.Proofs.Ytibfnmkeghkdpaa
open Go.RowKit
attribute [local go_sem] gives givesUpon

theorem info_str : (Try.prog.info? 9).map (fun i => (i.zero, i.size, i.bytes)) = some (some (.string ⟨#[]⟩), 1, 16) := by kernel_rfl
theorem info_bool : (Try.prog.info? 4).map (fun i => (i.zero, i.size, i.bytes)) = some (some (.bool false), 1, 1) := by kernel_rfl
/-- A new maker, of which nothing has been given yet. -/
def NewM (x : World) (lo mb tb gb n : Nat) (ca : Option Addr) (cn cc : Nat) : Prop :=
  (lo ≤ mb ∧ lo ≤ tb ∧ lo ≤ gb) ∧ Row x mb [.slice ca cn cc, .int .i64 0, .slice (some ⟨tb, 0, none⟩) n n, .slice (some ⟨gb, 0, none⟩) n n, .int .i64 600] 46 ∧ Row x tb ((List.replicate n (⟨#[]⟩ : ByteArray)).map .string) 9 ∧ Row x gb ((List.replicate n false).map .bool) 4
theorem NewM.below {x y : World} {lo mb tb gb n cn cc : Nat} {ca : Option Addr} (h : NewM x lo mb tb gb n ca cn cc) (hb : Below x.heap.size x y) : NewM y lo mb tb gb n ca cn cc :=
  ⟨h.1, h.2.1.below hb h.2.1.lt, h.2.2.1.below hb h.2.2.1.lt, h.2.2.2.below hb h.2.2.2.lt⟩
theorem Row.type {w : World} {B : Nat} {cs ds : List Value} {T U : TypeId} (h : Row w B cs T) (k : Row w B ds U) : T = U := by
  have e := Option.some.inj (h.symm.trans k)
  injection e
theorem NewM.mat {x : World} {lo mb tb gb n cn cc : Nat} {ca : Option Addr} (h : NewM x lo mb tb gb n ca cn cc) (G : Int → Option Facts) : MAt ⟨mb, tb, gb, n, ca, cn, cc, G⟩ x 600 := by
  obtain ⟨h1, h2, h3, h4⟩ := h
  refine ⟨0, List.replicate n ⟨#[]⟩, List.replicate n false, h2, ⟨Int.le_refl _, by show (0 : Int) ≤ (cn : Int); omega⟩, h3, h4, List.length_replicate, List.length_replicate, fun k hk => ?_⟩
  rw [List.getElem?_replicate] at hk
  split at hk <;> cases hk
theorem NewM.ok {x wb : World} {lo mb tb gb n cn cc : Nat} {ca : Option Addr} {G : Int → Option Facts} (h : NewM x lo mb tb gb n ca cn cc) (hlo : wb.heap.size ≤ lo) (hc : ChAt wb ca cn) (hcn : cn ≤ 1048576) (hn : n ≤ 9) (hG : GOk G) : MK.ok ⟨mb, tb, gb, n, ca, cn, cc, G⟩ wb := by
  obtain ⟨⟨h1, h2, h3⟩, h4, h5, h6⟩ := h
  refine ⟨Nat.le_trans hlo h1, Nat.le_trans hlo h2, Nat.le_trans hlo h3, fun e => ?_, fun e => ?_, fun e => ?_, hc, hcn, hn, hG⟩
  · dsimp only at e; subst e; exact absurd (h4.type h5) (by decide)
  · dsimp only at e; subst e; exact absurd (h4.type h6) (by decide)
  · dsimp only at e; subst e; exact absurd (h5.type h6) (by decide)

theorem Bd.but {w : World} {t : Re} {ca : List Value} {S : List Nat} {y z : World} (h : Bd w t ca y) (hi : t.In w ca) (hb : But S y z) (hS : ∀ k, k ∈ S → w.heap.size + 1 ≤ k) : Bd w t ca z := by
  have h1 : Below w.heap.size w z := h.bw.trans (hb.below h.bw.size (fun k hk => by have := hS k hk; omega))
  exact ⟨h1, h.ra.but hb (fun hm => by have := hS _ hm; omega), hi.below h1⟩

set_option maxRecDepth 100000 in
set_option maxHeartbeats 8000000 in
theorem LawLengths_any (t : Re) (ca : Option Addr) (cn cc : Nat) (w : World) (cs : List Value) (hIn : t.In w cs) (hsz : t.size ≤ 1048576) (hch : ChAt w ca cn) (hcn : cn ≤ 1048576) :
    Calls Try.prog 7 #[.agg cs.toArray, .slice ca cn cc] w fun e w' => e = .returned (.bool true) ∧ Below w.heap.size w w' := by
  have HCk := hid (fun (x : World) (cs' : List Value) (h : t.In x cs') => CheckRef_any t x cs' h hsz)
  have HG1 := hid (fun (x : World) (cs' : List Value) (h : t.In x cs') => Groups_any t x cs' h hsz)
  have HG2 := hid (fun (x : World) (cs' : List Value) (h : t.In x cs') => GroupsRef_any t x cs' h hsz)
  have HL1 := hid (fun (x : World) (cs' : List Value) (h : t.In x cs') => Length_any t x cs' h hsz)
  have HF1 := hid (fun (x : World) (cs' : List Value) (h : t.In x cs') => First_any t x cs' h hsz)
  have HN1 := hid (fun (x : World) (cs' : List Value) (h : t.In x cs') => Nullable_any t x cs' h hsz)
  have hFw := Re.facts_wf hIn
  have HSZ := hid hsz
  have HI := hid hIn
  have HCH := hid hch
  obtain ⟨p, ad, m, cap, rfl⟩ := Re.cells_shape hIn
  have hal := (Below.refl w.heap.size w).alloc (Nat.le_refl _) (.cells #[.int .i64 p.op, .int .u64 p.set.a, .int .u64 p.set.b, .int .u64 p.set.c, .int .u64 p.set.d, .int .i64 p.lo, .int .i64 p.hi, .int .i64 p.gr, .slice ad m cap] 28)
  have B0 : Hid (Bd w t [.int .i64 p.op, .int .u64 p.set.a, .int .u64 p.set.b, .int .u64 p.set.c, .int .u64 p.set.d, .int .i64 p.lo, .int .i64 p.hi, .int .i64 p.gr, .slice ad m cap] (w.alloc (.cells #[.int .i64 p.op, .int .u64 p.set.a, .int .u64 p.set.b, .int .u64 p.set.c, .int .u64 p.set.d, .int .i64 p.lo, .int .i64 p.hi, .int .i64 p.gr, .slice ad m cap] 28))) := ⟨hal, Row.new (cs := [.int .i64 p.op, .int .u64 p.set.a, .int .u64 p.set.b, .int .u64 p.set.c, .int .u64 p.set.d, .int .i64 p.lo, .int .i64 p.hi, .int .i64 p.gr, .slice ad m cap]) rfl, hIn.below hal⟩
  clear hIn hsz hal hch
  go_enter Try.func7, Try.ntmps7
  go_wp2_with fail
  refine (HCk.out _ _ B0.out.ia).mono ?_
  rintro e v1 ⟨rfl, hbv⟩
  have B1 := hid (B0.out.later hbv)
  clear hbv
  have q1 := B1.out.ra.c9
  have z1 := B1.out.ra.lt
  rcases (show (t.err != 0) = true ∨ (t.err != 0) = false by cases (t.err != 0) <;> simp) with hd | hd
  · go_wp2_with fail
    refine (awake_any _).mono ?_
    rintro e ya ⟨rfl, hba⟩
    have HBA : Hid (Below w.heap.size w ya) := B1.out.bw.trans (hba.mono B1.out.bw.size)
    clear hba
    go_wp2_with fail
    all_goals go_ret
    all_goals exact ⟨rfl, HBA.out⟩
  have hE0 : t.err = 0 := by simpa using hd
  have HE := hid (Re.err_zero hE0)
  have HGM := hid (Re.gmap_ok hE0)
  have HIR := hid (Re.err_inR hE0)
  have hn9 : t.groups ≤ 9 := HE.out.2.2.2.2.2.1
  clear hE0
  go_wp2_with fail
  refine (HG1.out _ _ B1.out.ia).mono ?_
  rintro e v2 ⟨rfl, hbv⟩
  have B2 := hid (B1.out.later hbv)
  clear hbv q1 z1
  have q2 := B2.out.ra.c9
  have z2 := B2.out.ra.lt
  go_wp2_with fail
  refine (HG2.out _ _ B2.out.ia).mono ?_
  rintro e v3 ⟨rfl, hbv⟩
  have B3 := hid (B2.out.later hbv)
  clear hbv q2 z2
  have q3 := B3.out.ra.c9
  have z3 := B3.out.ra.lt
  generalize t.groups = n at *
  obtain ⟨i1, hi1, hy0, hy1, hy2⟩ := info_parts info_str
  obtain ⟨i2, hi2, hz0, hz1, hz2⟩ := info_parts info_bool
  have hmk1 : ∀ y : World, (Instr.makeSlice 43 (.int .i64 (n : Int)) (.int .i64 (n : Int))).run Try.prog y = .ok (.slice (some ⟨y.heap.size, 0, none⟩) n n) (y.alloc (.cells (List.replicate n (.string ⟨#[]⟩)).toArray 9)) := fun y => by
    have h := run_makeSlice (P := Try.prog) y 43 9 i1 _ Try.underlying43 hi1 hy0 .i64 .i64 n n (by omega) (by omega) (by rw [hy1]; simp; omega) (by rw [hy2]; omega) (by omega)
    rw [hy1] at h
    have e : madeCells (Value.string ⟨#[]⟩).cells ((n : Int).toNat * 1) = (List.replicate n (.string ⟨#[]⟩)).toArray := by
      rw [← toList_madeCells_one]; simp [Value.cells]
    rw [e] at h
    simpa using h
  have hmk2 : ∀ y : World, (Instr.makeSlice 44 (.int .i64 (n : Int)) (.int .i64 (n : Int))).run Try.prog y = .ok (.slice (some ⟨y.heap.size, 0, none⟩) n n) (y.alloc (.cells (List.replicate n (.bool false)).toArray 4)) := fun y => by
    have h := run_makeSlice (P := Try.prog) y 44 4 i2 _ Try.underlying44 hi2 hz0 .i64 .i64 n n (by omega) (by omega) (by rw [hz1]; simp; omega) (by rw [hz2]; omega) (by omega)
    rw [hz1] at h
    have e : madeCells (Value.bool false).cells ((n : Int).toNat * 1) = (List.replicate n (.bool false)).toArray := by
      rw [← toList_madeCells_one]; simp [Value.cells]
    rw [e] at h
    simpa using h
  clear hi1 hi2 hy0 hy1 hy2 hz0 hz1 hz2
  go_wp2_with fail
  have HBX := hid (fun (x : World) (hx : Grow v3.drew x) => B3.out.later ((Below.refl _ v3).drew.trans hx))
  have hwv : w.heap.size + 1 ≤ v3.heap.size := B3.out.ra.lt
  refine wp_region_inv 8 (Grow) (by kernel_rfl) (by kernel_rfl) (Grow.refl) (fun _ _ _ => Grow.trans) ?_
  simp only [fill, dstOf, Act.put, List.take_succ_cons, List.take_zero, List.getElem?_toArray, List.getElem?_cons_zero, List.getElem?_cons_succ, Option.bind_some, List.setIfInBounds_toArray, List.set_cons_zero, List.set_cons_succ]
  refine Plan.det 1 rfl (Grow.refl) ?_
  apply Exists.intro
  refine ⟨fun vs x hR hF K hK => ?_, ?_⟩
  · clear hF
    go_simp
    exact hK _ _ (Grow.refl _) rfl
  refine Plan.det 2 rfl (Grow.refl) ?_
  apply Exists.intro
  refine ⟨fun vs x hR hF K hK => ?_, ?_⟩
  · clear hF
    go_simp
    exact hK _ _ (Grow.refl _) rfl
  refine Plan.rel 3 rfl (Grow.refl) (fun v x => ∃ tb, v = .slice (some ⟨tb, 0, none⟩) n n ∧ w.heap.size + 1 ≤ tb ∧ Row x tb (List.replicate n (.string ⟨#[]⟩)) 9) (fun v a b hR ⟨B, h1, h2, h3⟩ => ⟨B, h1, h2, h3.below hR h3.lt⟩) (fun vs x hR hF K hK => ?_) ?_
  · have f1 := hF 0 _ _ rfl rfl
    go_simp
    exact hK _ _ (Grow.alloc _ _) ⟨_, rfl, (by have := Grow.size hR; simp at this; omega), Row.at _ _ _⟩
  refine Plan.det 4 rfl (Grow.refl) ?_
  apply Exists.intro
  refine ⟨fun vs x hR hF K hK => ?_, ?_⟩
  · clear hF
    go_simp
    exact hK _ _ (Grow.refl _) rfl
  refine Plan.rel 5 rfl (Grow.refl) (fun v x => ∃ gb, v = .slice (some ⟨gb, 0, none⟩) n n ∧ w.heap.size + 1 ≤ gb ∧ Row x gb (List.replicate n (.bool false)) 4) (fun v a b hR ⟨B, h1, h2, h3⟩ => ⟨B, h1, h2, h3.below hR h3.lt⟩) (fun vs x hR hF K hK => ?_) ?_
  · have f3 := hF 0 _ _ rfl rfl
    go_simp
    exact hK _ _ (Grow.alloc _ _) ⟨_, rfl, (by have := Grow.size hR; simp at this; omega), Row.at _ _ _⟩
  refine Plan.rel 6 rfl (Grow.refl) (fun v x => ∃ tb gb, v = .agg #[.slice ca cn cc, .int .i64 0, .slice (some ⟨tb, 0, none⟩) n n, .slice (some ⟨gb, 0, none⟩) n n, .int .i64 600] ∧ (w.heap.size + 1 ≤ tb ∧ w.heap.size + 1 ≤ gb) ∧ Row x tb (List.replicate n (.string ⟨#[]⟩)) 9 ∧ Row x gb (List.replicate n (.bool false)) 4) (fun v a b hR ⟨B, C, h1, h2, h3, h4⟩ => ⟨B, C, h1, h2, h3.below hR h3.lt, h4.below hR h4.lt⟩) (fun vs x hR hF K hK => ?_) ?_
  · have f0 := hF 4 _ _ rfl rfl; have f2 := hF 2 _ _ rfl rfl; have f4 := hF 0 _ _ rfl rfl
    obtain ⟨tb, e2, g1, g2⟩ := f2
    obtain ⟨gb, e4, g3, g4⟩ := f4
    simp only [e2, e4]
    go_simp
    exact hK _ _ (Grow.refl _) ⟨tb, gb, rfl, ⟨g1, g3⟩, g2, g4⟩
  refine Plan.rel 7 rfl (Grow.refl) (fun v x => ∃ mb tb gb, v = .pointer (some ⟨mb, 0, none⟩) ∧ NewM x (w.heap.size + 1) mb tb gb n ca cn cc) (fun v a b hR ⟨A, B, C, h1, h2⟩ => ⟨A, B, C, h1, h2.below hR⟩) (fun vs x hR hF K hK => ?_) ?_
  · have f5 := hF 0 _ _ rfl rfl
    obtain ⟨tb, gb, e5, ⟨g1, g3⟩, g2, g4⟩ := f5
    simp only [e5]
    go_simp
    exact hK _ _ (Grow.alloc _ _) ⟨_, tb, gb, rfl, ⟨(by have := Grow.size hR; simp at this; omega), g1, g3⟩, Row.at _ _ _, by rw [List.map_replicate]; exact g2.alloc _, by rw [List.map_replicate]; exact g4.alloc _⟩
  refine Plan.rel 8 rfl (Grow.refl) (fun v x => ∃ mb tb gb, v = .pointer (some ⟨mb, 0, none⟩) ∧ NewM x (w.heap.size + 1) mb tb gb n ca cn cc) (fun v a b hR ⟨A, B, C, h1, h2⟩ => ⟨A, B, C, h1, h2.below hR⟩) (fun vs x hR hF K hK => ?_) ?_
  · have f0 := hF 6 _ _ rfl rfl; have f1 := hF 5 _ _ rfl rfl; have f2 := hF 4 _ _ rfl rfl; have f3 := hF 3 _ _ rfl rfl; have f4 := hF 2 _ _ rfl rfl; have f5 := hF 1 _ _ rfl rfl; have f6 := hF 0 _ _ rfl rfl
    obtain ⟨mb, tb, gb, e6, g1⟩ := f6
    simp only [e6]
    go_simp
    exact hK _ _ (Grow.refl _) ⟨mb, tb, gb, rfl, g1⟩
  refine Plan.nil (fun vs x hR hF => ?_)
  have f0 := hF 7 _ _ rfl; have f1 := hF 6 _ _ rfl; have f2 := hF 5 _ _ rfl; have f3 := hF 4 _ _ rfl; have f4 := hF 3 _ _ rfl; have f5 := hF 2 _ _ rfl; have f6 := hF 1 _ _ rfl; have f7 := hF 0 _ _ rfl
  clear hF
  simp only [f0, f1, f3]
  clear f0 f1 f3
  simp only [List.drop_succ_cons, List.drop_zero]
  obtain ⟨t2, e2, -⟩ := f2
  obtain ⟨t4, e4, -⟩ := f4
  obtain ⟨t5, g5, e5, -⟩ := f5
  obtain ⟨m6, t6, g6, e6, -⟩ := f6
  obtain ⟨mb, tb, gb, e7, hnew⟩ := f7
  simp only [e2, e4, e5, e6, e7]
  have B4 := hid (HBX.out x hR)
  have HNEW := hid hnew
  have HOK := hid (hnew.ok (wb := w) (G := t.gmap) (Nat.le_succ _) HCH.out hcn hn9 HGM.out.1)
  have HMT := hid (hnew.mat t.gmap)
  clear hR HBX e2 e4 e5 e6 e7 hnew hmk1 hmk2 q3 z3 hwv
  have q4 := B4.out.ra.c9
  have z4 := B4.out.ra.lt
  go_wp2_with fail
  refine (make_any HOK.out t x _ 600 HI.out B4.out.bw HMT.out (by decide) (by decide) HE.out.1 HGM.out.2.2.2 HIR.out HGM.out.2.2.1 HSZ.out).mono ?_
  unfold MPost
  rintro e v5 ⟨s, ok, l2, rfl, h1, h2, h4, h5⟩
  have H1 := hid h1
  have H2 := hid h2
  have B5 := hid (B4.out.but HI.out h4 (fun k hk => by
    have h := HNEW.out.1
    simp only [List.mem_cons, List.not_mem_nil, or_false] at hk
    omega))
  clear h1 h2 h4 h5 q4 z4
  have q5 := B5.out.ra.c9
  have z5 := B5.out.ra.lt
  cases ok
  · go_wp2_with fail
    refine (awake_any _).mono ?_
    rintro e ya ⟨rfl, hba⟩
    have HBA : Hid (Below w.heap.size w ya) := B5.out.bw.trans (hba.mono B5.out.bw.size)
    clear hba
    go_wp2_with fail
    all_goals go_ret
    all_goals exact ⟨rfl, HBA.out⟩
  have hfit := (H1.out rfl).1
  have hss : (s.size : Int) ≤ 60000 := by
    obtain ⟨g1, g2, g3⟩ := H1.out rfl
    omega
  rw [← HGM.out.2.1] at hfit
  generalize t.facts = F at *
  have HFIT := hid hfit
  have HFW := hid hFw
  have a1 := hfit.least
  have a2 := hfit.most
  have a3 := hFw.most
  unfold Len at a3
  have el : s.data.toList.length = s.size := rfl
  rw [el] at a1 a2
  have d1 : decide ((s.size : Int) < F.least) = false := decide_eq_false (by omega)
  have d4 : decide (F.most < -1) = false := decide_eq_false (by omega)
  have HA2 := hid a2
  simp only [Cs.cells] at HF1
  clear hfit hFw a1 a2 a3 el H1
  go_wp2_with fail
  refine (HL1.out _ _ B5.out.ia).mono ?_
  rintro e v6 ⟨rfl, hbv⟩
  have B6 := hid (B5.out.later hbv)
  clear hbv q5 z5
  have q6 := B6.out.ra.c9
  have z6 := B6.out.ra.lt
  go_wp2_with fail
  refine (HF1.out _ _ B6.out.ia).mono ?_
  rintro e v7 ⟨rfl, hbv⟩
  have B7 := hid (B6.out.later hbv)
  clear hbv q6 z6
  have q7 := B7.out.ra.c9
  have z7 := B7.out.ra.lt
  have hal := (Below.refl v7.heap.size v7).alloc (Nat.le_refl _) (.cells #[.int .u64 F.first.a, .int .u64 F.first.b, .int .u64 F.first.c, .int .u64 F.first.d] 25)
  have B8 := hid (B7.out.later hal)
  have R8 := hid (Row.new (w := v7) (B := v7.heap.size) (cs := [.int .u64 F.first.a, .int .u64 F.first.b, .int .u64 F.first.c, .int .u64 F.first.d]) (T := 25) rfl)
  clear hal
  rcases (show decide (0 ≤ F.most) = true ∨ decide (0 ≤ F.most) = false by cases decide (0 ≤ F.most) <;> simp) with d2 | d2
  · have d3 : decide (F.most < (s.size : Int)) = false := decide_eq_false (by have h1 := HA2.out; have h2 := of_decide_eq_true d2; omega)
    rcases Nat.eq_zero_or_pos s.size with hs0 | hs0
    · have hnull : F.null = true := HFIT.out.null (by
        have e : s.data.toList.length = 0 := hs0
        exact List.eq_nil_of_length_eq_zero e)
      have HS0 := hid hs0
      have dz : ((s.size : Int) == 0) = true := beq_iff_eq.2 (by omega)
      rw [hnull] at HN1 ⊢
      clear hs0 hnull
      go_wp2_with fail
      refine (HN1.out _ _ B8.out.ia).mono ?_
      rintro e v9 ⟨rfl, hbv⟩
      have B9 := hid (B8.out.later hbv)
      clear hbv q7 z7
      go_wp2_with fail
      refine (awake_any _).mono ?_
      rintro e ya ⟨rfl, hba⟩
      have HBA : Hid (Below w.heap.size w ya) := B9.out.bw.trans (hba.mono B9.out.bw.size)
      clear hba
      go_wp2_with fail
      all_goals go_ret
      all_goals exact ⟨rfl, HBA.out⟩
    · have dz : ((s.size : Int) == 0) = false := beq_eq_false_iff_ne.2 (by omega)
      have hne : s.data.toList ≠ [] := fun h => by
        have e : s.data.toList.length = s.size := rfl
        rw [h] at e
        simp at e
        omega
      have hhas : F.first.has (s[0]'hs0).toNat = true := by
        have e0 : (s[0]'hs0) = s.data.toList.head hne := by rw [List.head_eq_getElem]; rfl
        rw [e0]
        exact HFIT.out.first _ _ (List.cons_head_tail hne).symm
      have HHS := hid (fun (x : World) => (by have h := Has_any F.first (s[0]'hs0).toNat x HFW.out.first (UInt8.toNat_lt _); rw [hhas] at h; exact h : Calls Try.prog 29 #[.agg #[.int .u64 F.first.a, .int .u64 F.first.b, .int .u64 F.first.c, .int .u64 F.first.d], .int .u8 (s[0]'hs0).toNat] x fun e w' => e = .returned (.bool true) ∧ Below x.heap.size x w'))
      clear hne hhas
      go_wp2_with fail
      generalize v7.heap.size = S1 at *
      generalize v7.alloc (.cells #[.int .u64 F.first.a, .int .u64 F.first.b, .int .u64 F.first.c, .int .u64 F.first.d] 25) = y at *
      have HC := hid (fun (x : World) (hx : Grow y.drew x) => (R8.out.drew.below hx R8.out.drew.lt).c4)
      have HBZ := hid (fun (x : World) (hx : Grow y.drew x) => B8.out.later ((Below.refl _ y).drew.trans hx))
      clear q7 z7
      refine wp_region_inv 8 (Grow) (by kernel_rfl) (by kernel_rfl) (Grow.refl) (fun _ _ _ => Grow.trans) ?_
      simp only [fill, dstOf, Act.put, List.take_succ_cons, List.take_zero, List.getElem?_toArray, List.getElem?_cons_zero, List.getElem?_cons_succ, Option.bind_some, List.setIfInBounds_toArray, List.set_cons_zero, List.set_cons_succ]
      refine Plan.det 1 rfl (Grow.refl) ?_
      apply Exists.intro
      refine ⟨fun vs x hR hF K hK => ?_, ?_⟩
      · have hc := HC.out x hR; clear hF
        go_simp
        exact hK _ _ (Grow.refl _) rfl
      refine Plan.det 2 rfl (Grow.refl) ?_
      apply Exists.intro
      refine ⟨fun vs x hR hF K hK => ?_, ?_⟩
      · clear hF
        go_simp
        exact hK _ _ (Grow.refl _) rfl
      refine Plan.det 3 rfl (Grow.refl) ?_
      apply Exists.intro
      refine ⟨fun vs x hR hF K hK => ?_, ?_⟩
      · have f1 := hF 0 _ _ rfl rfl; clear hF
        go_simp
        exact hK _ _ (Grow.refl _) rfl
      refine Plan.det 4 rfl (Grow.refl) ?_
      apply Exists.intro
      refine ⟨fun vs x hR hF K hK => ?_, ?_⟩
      · have f0 := hF 2 _ _ rfl rfl; have f2 := hF 0 _ _ rfl rfl; clear hF
        go_simp
        refine (HHS.out x).mono ?_
        rintro e x1 ⟨rfl, hbe⟩
        exact ⟨_, rfl, hK _ _ hbe rfl⟩
      refine Plan.det 5 rfl (Grow.refl) ?_
      apply Exists.intro
      refine ⟨fun vs x hR hF K hK => ?_, ?_⟩
      · have f3 := hF 0 _ _ rfl rfl; clear hF
        go_simp
        exact hK _ _ (Grow.refl _) rfl
      refine Plan.det 6 rfl (Grow.refl) ?_
      apply Exists.intro
      refine ⟨fun vs x hR hF K hK => ?_, ?_⟩
      · have f4 := hF 0 _ _ rfl rfl; clear hF
        go_simp
        refine (awake_any x).mono ?_
        rintro e x1 ⟨rfl, hbe⟩
        exact ⟨_, rfl, hK _ _ hbe rfl⟩
      refine Plan.det 7 rfl (Grow.refl) ?_
      apply Exists.intro
      refine ⟨fun vs x hR hF K hK => ?_, ?_⟩
      · have f4 := hF 1 _ _ rfl rfl; have f5 := hF 0 _ _ rfl rfl; clear hF
        go_simp
        exact hK _ _ (Grow.refl _) rfl
      refine Plan.det 8 rfl (Grow.refl) ?_
      apply Exists.intro
      refine ⟨fun vs x hR hF K hK => ?_, ?_⟩
      · have f0 := hF 6 _ _ rfl rfl; have f1 := hF 5 _ _ rfl rfl; have f2 := hF 4 _ _ rfl rfl; have f3 := hF 3 _ _ rfl rfl; have f4 := hF 2 _ _ rfl rfl; have f5 := hF 1 _ _ rfl rfl; have f6 := hF 0 _ _ rfl rfl; clear hF
        go_simp
        exact hK _ _ (Grow.refl _) rfl
      refine Plan.nil (fun vs x hR hF => ?_)
      have f0 := hF 7 _ _ rfl; have f1 := hF 6 _ _ rfl; have f2 := hF 5 _ _ rfl; have f3 := hF 4 _ _ rfl; have f4 := hF 3 _ _ rfl; have f5 := hF 2 _ _ rfl; have f6 := hF 1 _ _ rfl; have f7 := hF 0 _ _ rfl
      clear hF
      simp only [f0, f1, f2, f3, f4, f5, f6, f7]
      clear f0 f1 f2 f3 f4 f5 f6 f7
      simp only [List.drop_succ_cons, List.drop_zero]
      have HBA := hid (HBZ.out x hR).bw
      clear hR HC HBZ
      go_wp2_with fail
      all_goals go_ret
      all_goals exact ⟨rfl, HBA.out⟩
  · skip
    rcases Nat.eq_zero_or_pos s.size with hs0 | hs0
    · have hnull : F.null = true := HFIT.out.null (by
        have e : s.data.toList.length = 0 := hs0
        exact List.eq_nil_of_length_eq_zero e)
      have HS0 := hid hs0
      have dz : ((s.size : Int) == 0) = true := beq_iff_eq.2 (by omega)
      rw [hnull] at HN1 ⊢
      clear hs0 hnull
      go_wp2_with fail
      refine (HN1.out _ _ B8.out.ia).mono ?_
      rintro e v9 ⟨rfl, hbv⟩
      have B9 := hid (B8.out.later hbv)
      clear hbv q7 z7
      go_wp2_with fail
      refine (awake_any _).mono ?_
      rintro e ya ⟨rfl, hba⟩
      have HBA : Hid (Below w.heap.size w ya) := B9.out.bw.trans (hba.mono B9.out.bw.size)
      clear hba
      go_wp2_with fail
      all_goals go_ret
      all_goals exact ⟨rfl, HBA.out⟩
    · have dz : ((s.size : Int) == 0) = false := beq_eq_false_iff_ne.2 (by omega)
      have hne : s.data.toList ≠ [] := fun h => by
        have e : s.data.toList.length = s.size := rfl
        rw [h] at e
        simp at e
        omega
      have hhas : F.first.has (s[0]'hs0).toNat = true := by
        have e0 : (s[0]'hs0) = s.data.toList.head hne := by rw [List.head_eq_getElem]; rfl
        rw [e0]
        exact HFIT.out.first _ _ (List.cons_head_tail hne).symm
      have HHS := hid (fun (x : World) => (by have h := Has_any F.first (s[0]'hs0).toNat x HFW.out.first (UInt8.toNat_lt _); rw [hhas] at h; exact h : Calls Try.prog 29 #[.agg #[.int .u64 F.first.a, .int .u64 F.first.b, .int .u64 F.first.c, .int .u64 F.first.d], .int .u8 (s[0]'hs0).toNat] x fun e w' => e = .returned (.bool true) ∧ Below x.heap.size x w'))
      clear hne hhas
      go_wp2_with fail
      generalize v7.heap.size = S1 at *
      generalize v7.alloc (.cells #[.int .u64 F.first.a, .int .u64 F.first.b, .int .u64 F.first.c, .int .u64 F.first.d] 25) = y at *
      have HC := hid (fun (x : World) (hx : Grow y.drew x) => (R8.out.drew.below hx R8.out.drew.lt).c4)
      have HBZ := hid (fun (x : World) (hx : Grow y.drew x) => B8.out.later ((Below.refl _ y).drew.trans hx))
      clear q7 z7
      refine wp_region_inv 8 (Grow) (by kernel_rfl) (by kernel_rfl) (Grow.refl) (fun _ _ _ => Grow.trans) ?_
      simp only [fill, dstOf, Act.put, List.take_succ_cons, List.take_zero, List.getElem?_toArray, List.getElem?_cons_zero, List.getElem?_cons_succ, Option.bind_some, List.setIfInBounds_toArray, List.set_cons_zero, List.set_cons_succ]
      refine Plan.det 1 rfl (Grow.refl) ?_
      apply Exists.intro
      refine ⟨fun vs x hR hF K hK => ?_, ?_⟩
      · have hc := HC.out x hR; clear hF
        go_simp
        exact hK _ _ (Grow.refl _) rfl
      refine Plan.det 2 rfl (Grow.refl) ?_
      apply Exists.intro
      refine ⟨fun vs x hR hF K hK => ?_, ?_⟩
      · clear hF
        go_simp
        exact hK _ _ (Grow.refl _) rfl
      refine Plan.det 3 rfl (Grow.refl) ?_
      apply Exists.intro
      refine ⟨fun vs x hR hF K hK => ?_, ?_⟩
      · have f1 := hF 0 _ _ rfl rfl; clear hF
        go_simp
        exact hK _ _ (Grow.refl _) rfl
      refine Plan.det 4 rfl (Grow.refl) ?_
      apply Exists.intro
      refine ⟨fun vs x hR hF K hK => ?_, ?_⟩
      · have f0 := hF 2 _ _ rfl rfl; have f2 := hF 0 _ _ rfl rfl; clear hF
        go_simp
        refine (HHS.out x).mono ?_
        rintro e x1 ⟨rfl, hbe⟩
        exact ⟨_, rfl, hK _ _ hbe rfl⟩
      refine Plan.det 5 rfl (Grow.refl) ?_
      apply Exists.intro
      refine ⟨fun vs x hR hF K hK => ?_, ?_⟩
      · have f3 := hF 0 _ _ rfl rfl; clear hF
        go_simp
        exact hK _ _ (Grow.refl _) rfl
      refine Plan.det 6 rfl (Grow.refl) ?_
      apply Exists.intro
      refine ⟨fun vs x hR hF K hK => ?_, ?_⟩
      · have f4 := hF 0 _ _ rfl rfl; clear hF
        go_simp
        refine (awake_any x).mono ?_
        rintro e x1 ⟨rfl, hbe⟩
        exact ⟨_, rfl, hK _ _ hbe rfl⟩
      refine Plan.det 7 rfl (Grow.refl) ?_
      apply Exists.intro
      refine ⟨fun vs x hR hF K hK => ?_, ?_⟩
      · have f4 := hF 1 _ _ rfl rfl; have f5 := hF 0 _ _ rfl rfl; clear hF
        go_simp
        exact hK _ _ (Grow.refl _) rfl
      refine Plan.det 8 rfl (Grow.refl) ?_
      apply Exists.intro
      refine ⟨fun vs x hR hF K hK => ?_, ?_⟩
      · have f0 := hF 6 _ _ rfl rfl; have f1 := hF 5 _ _ rfl rfl; have f2 := hF 4 _ _ rfl rfl; have f3 := hF 3 _ _ rfl rfl; have f4 := hF 2 _ _ rfl rfl; have f5 := hF 1 _ _ rfl rfl; have f6 := hF 0 _ _ rfl rfl; clear hF
        go_simp
        exact hK _ _ (Grow.refl _) rfl
      refine Plan.nil (fun vs x hR hF => ?_)
      have f0 := hF 7 _ _ rfl; have f1 := hF 6 _ _ rfl; have f2 := hF 5 _ _ rfl; have f3 := hF 4 _ _ rfl; have f4 := hF 3 _ _ rfl; have f5 := hF 2 _ _ rfl; have f6 := hF 1 _ _ rfl; have f7 := hF 0 _ _ rfl
      clear hF
      simp only [f0, f1, f2, f3, f4, f5, f6, f7]
      clear f0 f1 f2 f3 f4 f5 f6 f7
      simp only [List.drop_succ_cons, List.drop_zero]
      have HBA := hid (HBZ.out x hR).bw
      clear hR HC HBZ
      go_wp2_with fail
      all_goals go_ret
      all_goals exact ⟨rfl, HBA.out⟩
end Go.Proofs.Ytibfnmkeghkdpaa
