/- The law RetreeKeeps: its walk answers true. -/
import Derived.Test.YtibfnmkeghkdpaaSame
import Derived.Test.YtibfnmkeghkdpaaPlain
namespace Go.Proofs.Ytibfnmkeghkdpaa
open Go.RowKit
attribute [local go_sem] gives givesUpon

-- def BL := [.int .i64 p.op, .int .u64 p.set.a, .int .u64 p.set.b, .int .u64 p.set.c, .int .u64 p.set.d, .int .i64 p.lo, .int .i64 p.hi, .int .i64 p.gr, .slice ad xs.length cap]
-- def BN := [.int .i64 p.op, .int .u64 p.set.a, .int .u64 p.set.b, .int .u64 p.set.c, .int .u64 p.set.d, .int .i64 p.lo, .int .i64 p.hi, .int .i64 p.gr, .slice ad n cap]
-- def PA := [.int .i64 pa.op, .int .u64 pa.set.a, .int .u64 pa.set.b, .int .u64 pa.set.c, .int .u64 pa.set.d, .int .i64 pa.lo, .int .i64 pa.hi, .int .i64 pa.gr, .slice aa ma ka]
-- def ZL := [.int .i64 0, .int .u64 0, .int .u64 0, .int .u64 0, .int .u64 0, .int .i64 0, .int .i64 0, .int .i64 0, .slice none 0 0]
theorem keeps_cases (t : Re) : (t.expandR.1 = .mk (Pay.of 0) [] ∧ t.expandR.2 ≠ 0 ∧ (t.expandR.2 = 3 ∨ (t.expandR.2 ≠ 3 ∧ t.err = t.expandR.2))) ∨ (t.expandR = (t.expand, 0) ∧ t.err = 0) := by
  by_cases h : t.err = 0
  · by_cases h2 : 4096 < t.weigh
    · rw [Re.expandR_much h h2]
      exact .inl ⟨rfl, by decide, .inl rfl⟩
    · exact .inr ⟨Re.expandR_ok h h2, h⟩
  · rw [Re.expandR_err h]
    refine .inl ⟨rfl, h, ?_⟩
    by_cases h3 : t.err = 3
    · exact .inl h3
    · exact .inr ⟨h3, rfl⟩
/-- What the walk knows of its two trees. -/
structure Kp (w : World) (B3 : Nat) (t x : Re) (ca cb : List Value) (y : World) : Prop where
  bw : Below w.heap.size w y
  ra : Row y w.heap.size ca 28
  rb : Row y B3 cb 28
  ia : t.In y ca
  ib : x.In y cb
theorem Kp.later {w : World} {B3 : Nat} {t x : Re} {ca cb : List Value} {y z : World} (h : Kp w B3 t x ca cb y) (hb : Below y.heap.size y z) : Kp w B3 t x ca cb z :=
  ⟨h.bw.trans (hb.mono h.bw.size), h.ra.below hb h.ra.lt, h.rb.below hb h.rb.lt, h.ia.below hb, h.ib.below hb⟩

set_option maxRecDepth 100000 in
set_option maxHeartbeats 8000000 in
theorem LawKeeps_any (t : Re) (w : World) (cs : List Value) (hIn : t.In w cs) (hsz : t.size ≤ 1048576) :
    Calls Try.prog 8 #[.agg cs.toArray] w fun e w' => e = .returned (.bool true) ∧ Below w.heap.size w w' := by
  have hcase := keeps_cases t
  have hplain := Re.expand_plain t
  have hself := Re.expand_self t
  have hfacts := Re.expand_facts (t := t)
  have hFx := Re.facts_wf hIn
  have hTy : t.err = 0 → t.typed = true := fun h => (Re.err_zero h).1
  have hsx := Nat.le_trans (Re.expandR_size (t := t)) (by decide : 4096 ≤ 1048576)
  have hEx := fun (x : World) (cs' : List Value) (h : t.In x cs') => Expand_any t x cs' h hsz
  have hCk := fun (x : World) (cs' : List Value) (h : t.In x cs') => Check_any t x cs' h hsz
  have hPl := fun (x : World) (cs' : List Value) (h : t.In x cs') => plain_any t x cs' h hsz
  have hLn := fun (x : World) (cs' : List Value) (h : t.In x cs') => Length_any t x cs' h hsz
  have hFi := fun (x : World) (cs' : List Value) (h : t.In x cs') => First_any t x cs' h hsz
  have hIn0 := hIn
  obtain ⟨p, ad, n, cap, rfl⟩ := Re.cells_shape hIn
  have HR0 : Hid (Row (w.alloc (.cells #[.int .i64 p.op, .int .u64 p.set.a, .int .u64 p.set.b, .int .u64 p.set.c, .int .u64 p.set.d, .int .i64 p.lo, .int .i64 p.hi, .int .i64 p.gr, .slice ad n cap] 28)) w.heap.size [.int .i64 p.op, .int .u64 p.set.a, .int .u64 p.set.b, .int .u64 p.set.c, .int .u64 p.set.d, .int .i64 p.lo, .int .i64 p.hi, .int .i64 p.gr, .slice ad n cap] 28 ∧ Below w.heap.size w (w.alloc (.cells #[.int .i64 p.op, .int .u64 p.set.a, .int .u64 p.set.b, .int .u64 p.set.c, .int .u64 p.set.d, .int .i64 p.lo, .int .i64 p.hi, .int .i64 p.gr, .slice ad n cap] 28))) := ⟨Row.new (cs := [.int .i64 p.op, .int .u64 p.set.a, .int .u64 p.set.b, .int .u64 p.set.c, .int .u64 p.set.d, .int .i64 p.lo, .int .i64 p.hi, .int .i64 p.gr, .slice ad n cap]) rfl, (Below.refl _ w).alloc (Nat.le_refl _) _⟩
  have HI := hid hIn0
  have HSZ := hid hsz
  have HSX := hid hsx
  have HEX := hid hEx
  have HCK := hid hCk
  have HPL := hid hPl
  have HLN := hid hLn
  have HFI := hid hFi
  have HPX := hid hplain
  have HSF := hid hself
  have HFC := hid hfacts
  have HTY := hid hTy
  have HCA := hid hcase
  clear hIn0 hIn hsz hsx hEx hCk hPl hLn hFi hplain hself hfacts hTy hcase
  go_enter Try.func8, Try.ntmps8
  go_wp2_with fail
  refine (HEX.out _ _ (HI.out.below HR0.out.2)).mono ?_
  rintro e w1 ⟨csa, rfl, hina, hb1⟩
  obtain ⟨pa, aa, ma, ka, rfl⟩ := Re.cells_shape hina
  have HR1 := hid (HR0.out.1.below hb1 HR0.out.1.lt)
  have HB1 : Hid (Below w.heap.size w w1) := HR0.out.2.trans (hb1.mono (by simp))
  have HIT := hid (HI.out.below HB1.out)
  have hal := (Below.refl w1.heap.size w1).alloc (Nat.le_refl _) (.cells #[.int .i64 pa.op, .int .u64 pa.set.a, .int .u64 pa.set.b, .int .u64 pa.set.c, .int .u64 pa.set.d, .int .i64 pa.lo, .int .i64 pa.hi, .int .i64 pa.gr, .slice aa ma ka] 28)
  have KP0 : Hid (Kp w w1.heap.size t t.expandR.1 [.int .i64 p.op, .int .u64 p.set.a, .int .u64 p.set.b, .int .u64 p.set.c, .int .u64 p.set.d, .int .i64 p.lo, .int .i64 p.hi, .int .i64 p.gr, .slice ad n cap] [.int .i64 pa.op, .int .u64 pa.set.a, .int .u64 pa.set.b, .int .u64 pa.set.c, .int .u64 pa.set.d, .int .i64 pa.lo, .int .i64 pa.hi, .int .i64 pa.gr, .slice aa ma ka] (w1.alloc (.cells #[.int .i64 pa.op, .int .u64 pa.set.a, .int .u64 pa.set.b, .int .u64 pa.set.c, .int .u64 pa.set.d, .int .i64 pa.lo, .int .i64 pa.hi, .int .i64 pa.gr, .slice aa ma ka] 28))) :=
    ⟨HB1.out.trans (hal.mono HB1.out.size), HR1.out.below hal HR1.out.lt, Row.new (cs := [.int .i64 pa.op, .int .u64 pa.set.a, .int .u64 pa.set.b, .int .u64 pa.set.c, .int .u64 pa.set.d, .int .i64 pa.lo, .int .i64 pa.hi, .int .i64 pa.gr, .slice aa ma ka]) rfl, HIT.out.below hal, hina.below hal⟩
  have q1 := HR1.out.c9
  have z1 := HR1.out.lt
  clear hal hb1 hina
  rcases HCA.out with ⟨h1, h2, h3⟩ | ⟨h1, h2⟩
  · rw [h1] at KP0
    generalize t.expandR.2 = f at h2 h3
    have o2 : (f != 0) = true := by simpa using h2
    clear h1 h2
    rcases h3 with h3 | ⟨h3, h4⟩
    · have o3 : (f == 3) = true := by simpa using h3
      clear h3
      go_wp2_with fail
      refine (SameRe_any _ (.mk (Pay.of 0) []) _ _ _ KP0.out.ib (zero_in _) (Below.refl _ _) (by rw [Re.size_mk]; simp [Re.sizes, Re.counts])).mono ?_
      rintro e v1 ⟨rfl, hbv⟩
      have KP1 := hid (KP0.out.later hbv)
      clear hbv q1 z1
      have qa1 := KP1.out.ra.c9
      have qb1 := KP1.out.rb.c9
      have za1 := KP1.out.ra.lt
      have zb1 := KP1.out.rb.lt
      go_wp2_with fail
      refine (awake_any _).mono ?_
      rintro e ya ⟨rfl, hba⟩
      have HBA : Hid (Below w.heap.size w ya) := KP1.out.bw.trans (hba.mono KP1.out.bw.size)
      clear hba
      go_wp2_with fail
      all_goals go_ret
      all_goals exact ⟨rfl, HBA.out⟩
    · have o3 : (f == 3) = false := by simpa using h3
      rw [h4] at HCK
      clear h3 h4
      go_wp2_with fail
      refine (HCK.out _ _ KP0.out.ia).mono ?_
      rintro e v1 ⟨rfl, hbv⟩
      have KP1 := hid (KP0.out.later hbv)
      clear hbv q1 z1
      have qa1 := KP1.out.ra.c9
      have qb1 := KP1.out.rb.c9
      have za1 := KP1.out.ra.lt
      have zb1 := KP1.out.rb.lt
      go_wp2_with fail
      refine (SameRe_any _ (.mk (Pay.of 0) []) _ _ _ KP1.out.ib (zero_in _) (Below.refl _ _) (by rw [Re.size_mk]; simp [Re.sizes, Re.counts])).mono ?_
      rintro e v2 ⟨rfl, hbv⟩
      have KP2 := hid (KP1.out.later hbv)
      clear hbv qa1 qb1 za1 zb1
      have qa2 := KP2.out.ra.c9
      have qb2 := KP2.out.rb.c9
      have za2 := KP2.out.ra.lt
      have zb2 := KP2.out.rb.lt
      go_wp2_with fail
      refine (awake_any _).mono ?_
      rintro e ya ⟨rfl, hba⟩
      have HBA : Hid (Below w.heap.size w ya) := KP2.out.bw.trans (hba.mono KP2.out.bw.size)
      clear hba
      go_wp2_with fail
      all_goals go_ret
      all_goals exact ⟨rfl, HBA.out⟩
  · have h5 : t.expandR.1 = t.expand := by rw [h1]
    have h6 : t.expandR.2 = 0 := by rw [h1]
    rw [h5] at KP0 HSX
    rw [h6]
    have H2 := hid h2
    rw [h2] at HCK
    have HPA := hid (fun (x : World) (cs' : List Value) (h : t.expand.In x cs') => (by have h' := plain_any t.expand x cs' h HSX.out; rw [HPX.out] at h'; exact h' : Calls Try.prog 30 #[.agg cs'.toArray] x fun e w' => e = .returned (.bool true) ∧ Below x.heap.size x w'))
    clear h1 h2 h5 h6
    go_wp2_with fail
    refine (HPA.out _ _ KP0.out.ib).mono ?_
    rintro e v1 ⟨rfl, hbv⟩
    have KP1 := hid (KP0.out.later hbv)
    clear hbv q1 z1
    have qa1 := KP1.out.ra.c9
    have qb1 := KP1.out.rb.c9
    have za1 := KP1.out.ra.lt
    have zb1 := KP1.out.rb.lt
    go_wp2_with fail
    rcases (show t.plain = true ∨ t.plain = false by cases t.plain <;> simp) with hp | hp
    · have hpl := HPL
      rw [hp] at HPL
      clear hpl
      refine (HPL.out _ _ KP1.out.ia).mono ?_
      rintro e v2 ⟨rfl, hbv⟩
      have KP2 := hid (KP1.out.later hbv)
      clear hbv qa1 qb1 za1 zb1
      have qa2 := KP2.out.ra.c9
      have qb2 := KP2.out.rb.c9
      have za2 := KP2.out.ra.lt
      have zb2 := KP2.out.rb.lt
      go_wp2_with fail
      have he := HSF.out (HTY.out H2.out) hp
      refine (SameRe_any _ t _ _ _ (by have h := KP2.out.ib; rw [he] at h; exact h) KP2.out.ia (Below.refl _ _) HSZ.out).mono ?_
      rintro e v3 ⟨rfl, hbv⟩
      have KP3 := hid (KP2.out.later hbv)
      clear hbv qa2 qb2 za2 zb2
      have qa3 := KP3.out.ra.c9
      have qb3 := KP3.out.rb.c9
      have za3 := KP3.out.ra.lt
      have zb3 := KP3.out.rb.lt
      go_wp2_with fail
      refine (HCK.out _ _ KP3.out.ia).mono ?_
      rintro e v4 ⟨rfl, hbv⟩
      have KP4 := hid (KP3.out.later hbv)
      clear hbv qa3 qb3 za3 zb3
      have qa4 := KP4.out.ra.c9
      have qb4 := KP4.out.rb.c9
      have za4 := KP4.out.ra.lt
      have zb4 := KP4.out.rb.lt
      go_wp2_with fail
      clear he hp
      refine (Check_any t.expand _ _ KP4.out.ib HSX.out).mono ?_
      rintro e v5 ⟨rfl, hbv⟩
      have KP5 := hid (KP4.out.later hbv)
      clear hbv qa4 qb4 za4 zb4
      have qa5 := KP5.out.ra.c9
      have qb5 := KP5.out.rb.c9
      have za5 := KP5.out.ra.lt
      have zb5 := KP5.out.rb.lt
      rcases (show (t.expand.err != 0) = true ∨ (t.expand.err != 0) = false by cases (t.expand.err != 0) <;> simp) with hd | hd
      · go_wp2_with fail
        refine (awake_any _).mono ?_
        rintro e ya ⟨rfl, hba⟩
        have HBA : Hid (Below w.heap.size w ya) := KP5.out.bw.trans (hba.mono KP5.out.bw.size)
        clear hba
        go_wp2_with fail
        all_goals go_ret
        all_goals exact ⟨rfl, HBA.out⟩
      · have hxe := HFC.out H2.out (by simpa using hd)
        go_wp2_with fail
        have HL2 := hid (fun (x : World) (cs' : List Value) (h : t.expand.In x cs') => (by have h' := Length_any t.expand x cs' h HSX.out; rw [hxe] at h'; exact h' : Calls Try.prog 19 #[.agg cs'.toArray] x fun e w' => e = .returned (.tuple #[.int .i64 t.facts.least, .int .i64 t.facts.most]) ∧ Below x.heap.size x w'))
        have HF2 := hid (fun (x : World) (cs' : List Value) (h : t.expand.In x cs') => (by have h' := First_any t.expand x cs' h HSX.out; rw [hxe] at h'; exact h' : Calls Try.prog 21 #[.agg cs'.toArray] x fun e w' => e = .returned (.tuple #[.agg t.facts.first.cells.toArray, .bool t.facts.null]) ∧ Below x.heap.size x w'))
        have HN2 := hid (fun (x : World) (cs' : List Value) (h : t.expand.In x cs') => (by have h' := Nullable_any t.expand x cs' h HSX.out; rw [hxe] at h'; exact h' : Calls Try.prog 23 #[.agg cs'.toArray] x fun e w' => e = .returned (.bool t.facts.null) ∧ Below x.heap.size x w'))
        generalize t.facts = F at *
        simp only [Cs.cells] at HFI HF2
        have heq := eq_self F.first
        clear hd hxe
        refine (HLN.out _ _ KP5.out.ia).mono ?_
        rintro e v6 ⟨rfl, hbv⟩
        have KP6 := hid (KP5.out.later hbv)
        clear hbv qa5 qb5 za5 zb5
        have qa6 := KP6.out.ra.c9
        have qb6 := KP6.out.rb.c9
        have za6 := KP6.out.ra.lt
        have zb6 := KP6.out.rb.lt
        go_wp2_with fail
        refine (HL2.out _ _ KP6.out.ib).mono ?_
        rintro e v7 ⟨rfl, hbv⟩
        have KP7 := hid (KP6.out.later hbv)
        clear hbv qa6 qb6 za6 zb6
        have qa7 := KP7.out.ra.c9
        have qb7 := KP7.out.rb.c9
        have za7 := KP7.out.ra.lt
        have zb7 := KP7.out.rb.lt
        go_wp2_with fail
        refine (HFI.out _ _ KP7.out.ia).mono ?_
        rintro e v8 ⟨rfl, hbv⟩
        have KP8 := hid (KP7.out.later hbv)
        clear hbv qa7 qb7 za7 zb7
        have qa8 := KP8.out.ra.c9
        have qb8 := KP8.out.rb.c9
        have za8 := KP8.out.ra.lt
        have zb8 := KP8.out.rb.lt
        go_wp2_with fail
        have hal := (Below.refl v8.heap.size v8).alloc (Nat.le_refl _) (.cells #[.int .u64 F.first.a, .int .u64 F.first.b, .int .u64 F.first.c, .int .u64 F.first.d] 25)
        have KPw := hid (KP8.out.later hal)
        have RS := hid (Row.new (w := v8) (B := v8.heap.size) (cs := [.int .u64 F.first.a, .int .u64 F.first.b, .int .u64 F.first.c, .int .u64 F.first.d]) (T := 25) rfl)
        clear hal
        refine (HF2.out _ _ KPw.out.ib).mono ?_
        rintro e y1 ⟨rfl, hbv⟩
        have KY := hid (KPw.out.later hbv)
        have RS1 := hid (RS.out.below hbv RS.out.lt)
        clear hbv qa8 qb8 za8 zb8
        have qa := KY.out.ra.c9
        have qb := KY.out.rb.c9
        have za := KY.out.ra.lt
        have zb := KY.out.rb.lt
        have qs := RS1.out.c4
        have zs := RS1.out.lt
        go_wp2_with fail
        have hal := (Below.refl y1.heap.size y1).alloc (Nat.le_refl _) (.cells #[.int .u64 F.first.a, .int .u64 F.first.b, .int .u64 F.first.c, .int .u64 F.first.d] 25)
        have KPz := hid (KY.out.later hal)
        clear hal
        refine (HN2.out _ _ KPz.out.ib).mono ?_
        rintro e y2 ⟨rfl, hbv⟩
        have KZ := hid (KPz.out.later hbv)
        clear hbv qa qb za zb qs zs
        go_wp2_with fail
        refine (awake_any _).mono ?_
        rintro e ya ⟨rfl, hba⟩
        have HBA : Hid (Below w.heap.size w ya) := KZ.out.bw.trans (hba.mono KZ.out.bw.size)
        clear hba
        go_wp2_with fail
        all_goals go_ret
        all_goals exact ⟨rfl, HBA.out⟩
    · rw [hp] at HPL
      refine (HPL.out _ _ KP1.out.ia).mono ?_
      rintro e v2 ⟨rfl, hbv⟩
      have KP2 := hid (KP1.out.later hbv)
      clear hbv qa1 qb1 za1 zb1
      have qa2 := KP2.out.ra.c9
      have qb2 := KP2.out.rb.c9
      have za2 := KP2.out.ra.lt
      have zb2 := KP2.out.rb.lt
      go_wp2_with fail
      refine (HCK.out _ _ KP2.out.ia).mono ?_
      rintro e v3 ⟨rfl, hbv⟩
      have KP3 := hid (KP2.out.later hbv)
      clear hbv qa2 qb2 za2 zb2
      have qa3 := KP3.out.ra.c9
      have qb3 := KP3.out.rb.c9
      have za3 := KP3.out.ra.lt
      have zb3 := KP3.out.rb.lt
      go_wp2_with fail
      clear hp
      refine (Check_any t.expand _ _ KP3.out.ib HSX.out).mono ?_
      rintro e v4 ⟨rfl, hbv⟩
      have KP4 := hid (KP3.out.later hbv)
      clear hbv qa3 qb3 za3 zb3
      have qa4 := KP4.out.ra.c9
      have qb4 := KP4.out.rb.c9
      have za4 := KP4.out.ra.lt
      have zb4 := KP4.out.rb.lt
      rcases (show (t.expand.err != 0) = true ∨ (t.expand.err != 0) = false by cases (t.expand.err != 0) <;> simp) with hd | hd
      · go_wp2_with fail
        refine (awake_any _).mono ?_
        rintro e ya ⟨rfl, hba⟩
        have HBA : Hid (Below w.heap.size w ya) := KP4.out.bw.trans (hba.mono KP4.out.bw.size)
        clear hba
        go_wp2_with fail
        all_goals go_ret
        all_goals exact ⟨rfl, HBA.out⟩
      · have hxe := HFC.out H2.out (by simpa using hd)
        go_wp2_with fail
        have HL2 := hid (fun (x : World) (cs' : List Value) (h : t.expand.In x cs') => (by have h' := Length_any t.expand x cs' h HSX.out; rw [hxe] at h'; exact h' : Calls Try.prog 19 #[.agg cs'.toArray] x fun e w' => e = .returned (.tuple #[.int .i64 t.facts.least, .int .i64 t.facts.most]) ∧ Below x.heap.size x w'))
        have HF2 := hid (fun (x : World) (cs' : List Value) (h : t.expand.In x cs') => (by have h' := First_any t.expand x cs' h HSX.out; rw [hxe] at h'; exact h' : Calls Try.prog 21 #[.agg cs'.toArray] x fun e w' => e = .returned (.tuple #[.agg t.facts.first.cells.toArray, .bool t.facts.null]) ∧ Below x.heap.size x w'))
        have HN2 := hid (fun (x : World) (cs' : List Value) (h : t.expand.In x cs') => (by have h' := Nullable_any t.expand x cs' h HSX.out; rw [hxe] at h'; exact h' : Calls Try.prog 23 #[.agg cs'.toArray] x fun e w' => e = .returned (.bool t.facts.null) ∧ Below x.heap.size x w'))
        generalize t.facts = F at *
        simp only [Cs.cells] at HFI HF2
        have heq := eq_self F.first
        clear hd hxe
        refine (HLN.out _ _ KP4.out.ia).mono ?_
        rintro e v5 ⟨rfl, hbv⟩
        have KP5 := hid (KP4.out.later hbv)
        clear hbv qa4 qb4 za4 zb4
        have qa5 := KP5.out.ra.c9
        have qb5 := KP5.out.rb.c9
        have za5 := KP5.out.ra.lt
        have zb5 := KP5.out.rb.lt
        go_wp2_with fail
        refine (HL2.out _ _ KP5.out.ib).mono ?_
        rintro e v6 ⟨rfl, hbv⟩
        have KP6 := hid (KP5.out.later hbv)
        clear hbv qa5 qb5 za5 zb5
        have qa6 := KP6.out.ra.c9
        have qb6 := KP6.out.rb.c9
        have za6 := KP6.out.ra.lt
        have zb6 := KP6.out.rb.lt
        go_wp2_with fail
        refine (HFI.out _ _ KP6.out.ia).mono ?_
        rintro e v7 ⟨rfl, hbv⟩
        have KP7 := hid (KP6.out.later hbv)
        clear hbv qa6 qb6 za6 zb6
        have qa7 := KP7.out.ra.c9
        have qb7 := KP7.out.rb.c9
        have za7 := KP7.out.ra.lt
        have zb7 := KP7.out.rb.lt
        go_wp2_with fail
        have hal := (Below.refl v7.heap.size v7).alloc (Nat.le_refl _) (.cells #[.int .u64 F.first.a, .int .u64 F.first.b, .int .u64 F.first.c, .int .u64 F.first.d] 25)
        have KPw := hid (KP7.out.later hal)
        have RS := hid (Row.new (w := v7) (B := v7.heap.size) (cs := [.int .u64 F.first.a, .int .u64 F.first.b, .int .u64 F.first.c, .int .u64 F.first.d]) (T := 25) rfl)
        clear hal
        refine (HF2.out _ _ KPw.out.ib).mono ?_
        rintro e y1 ⟨rfl, hbv⟩
        have KY := hid (KPw.out.later hbv)
        have RS1 := hid (RS.out.below hbv RS.out.lt)
        clear hbv qa7 qb7 za7 zb7
        have qa := KY.out.ra.c9
        have qb := KY.out.rb.c9
        have za := KY.out.ra.lt
        have zb := KY.out.rb.lt
        have qs := RS1.out.c4
        have zs := RS1.out.lt
        go_wp2_with fail
        have hal := (Below.refl y1.heap.size y1).alloc (Nat.le_refl _) (.cells #[.int .u64 F.first.a, .int .u64 F.first.b, .int .u64 F.first.c, .int .u64 F.first.d] 25)
        have KPz := hid (KY.out.later hal)
        clear hal
        refine (HN2.out _ _ KPz.out.ib).mono ?_
        rintro e y2 ⟨rfl, hbv⟩
        have KZ := hid (KPz.out.later hbv)
        clear hbv qa qb za zb qs zs
        go_wp2_with fail
        refine (awake_any _).mono ?_
        rintro e ya ⟨rfl, hba⟩
        have HBA : Hid (Below w.heap.size w ya) := KZ.out.bw.trans (hba.mono KZ.out.bw.size)
        clear hba
        go_wp2_with fail
        all_goals go_ret
        all_goals exact ⟨rfl, HBA.out⟩
end Go.Proofs.Ytibfnmkeghkdpaa
