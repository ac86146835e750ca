/- The law ResimExact. -/
import Derived.Test.YthnpbopnpdlmnaaX22
import Derived.Test.YthnpbopnpdlmnaaX27
import Derived.Test.YthnpbopnpdlmnaaX40
namespace Go.Proofs.Ythnpbopnpdlmnaa
open Go.RowKit
attribute [local go_sem] gives givesUpon

def TreeE (w : World) (t : Re) (cs : List Value) (x : World) : Prop := Row x w.heap.size cs 28 ∧ Below w.heap.size w x ∧ t.In x cs
theorem TreeE.later {w : World} {t : Re} {cs : List Value} {x y : World} (h : TreeE w t cs x) (hb : Below x.heap.size x y) : TreeE w t cs y :=
  ⟨h.1.below hb h.1.lt, h.2.1.trans (hb.mono h.2.1.size), h.2.2.below hb⟩
def TrueE (w : World) (e : Ending) (w' : World) : Prop := e = .returned (.bool true) ∧ Below w.heap.size w w'
set_option maxRecDepth 100000 in
set_option maxHeartbeats 32000000 in
theorem LawExact_any (w : World) (t : Re) (cs : List Value) (s : ByteArray) (at_ : Int) (lines : Bool) (hin : t.In w cs) (_hs : s.size ≤ 1048576) :
    Calls Try.prog 5 #[.agg cs.toArray, .agg #[.string s, .int .i64 at_, .bool lines]] w fun e w' => e = .returned (.bool true) ∧ Below w.heap.size w w' := by
  have HWF := hid (Re.In.wfs t cs hin)
  obtain ⟨p, ad, m, c, rfl⟩ := Re.cells_shape hin
  have hBl : Below w.heap.size w ((w.alloc (.cells #[.int .i64 p.op, .int .u64 p.set.a, .int .u64 p.set.b, .int .u64 p.set.c, .int .u64 p.set.d, .int .i64 p.lo, .int .i64 p.hi, .int .i64 p.gr, .slice ad m c] 28)).alloc (.cells #[.string s, .int .i64 at_, .bool lines] 56)) := ((Below.refl w.heap.size w).alloc (Nat.le_refl _) _).alloc (by simp) _
  have hL : TreeE w t [.int .i64 p.op, .int .u64 p.set.a, .int .u64 p.set.b, .int .u64 p.set.c, .int .u64 p.set.d, .int .i64 p.lo, .int .i64 p.hi, .int .i64 p.gr, .slice ad m c] ((w.alloc (.cells #[.int .i64 p.op, .int .u64 p.set.a, .int .u64 p.set.b, .int .u64 p.set.c, .int .u64 p.set.d, .int .i64 p.lo, .int .i64 p.hi, .int .i64 p.gr, .slice ad m c] 28)).alloc (.cells #[.string s, .int .i64 at_, .bool lines] 56)) := ⟨(Row.new rfl).alloc _, hBl, hin.below hBl⟩
  have q1 := (Row.new (by simp) : Row ((w.alloc (.cells #[.int .i64 p.op, .int .u64 p.set.a, .int .u64 p.set.b, .int .u64 p.set.c, .int .u64 p.set.d, .int .i64 p.lo, .int .i64 p.hi, .int .i64 p.gr, .slice ad m c] 28)).alloc (.cells #[.string s, .int .i64 at_, .bool lines] 56)) (w.heap.size + 1) [.string s, .int .i64 at_, .bool lines] 56).three9
  have HL := hid hL
  clear hBl hL hin
  have HSM := hid (fun (x : World) (hx : TreeE w t [.int .i64 p.op, .int .u64 p.set.a, .int .u64 p.set.b, .int .u64 p.set.c, .int .u64 p.set.d, .int .i64 p.lo, .int .i64 p.hi, .int .i64 p.gr, .slice ad m c] x) => SmallB_any x t [.int .i64 p.op, .int .u64 p.set.a, .int .u64 p.set.b, .int .u64 p.set.c, .int .u64 p.set.d, .int .i64 p.lo, .int .i64 p.hi, .int .i64 p.gr, .slice ad m c] 14 hx.2.2 (by omega))
  have HAW : Hid (∀ x, TreeE w t [.int .i64 p.op, .int .u64 p.set.a, .int .u64 p.set.b, .int .u64 p.set.c, .int .u64 p.set.d, .int .i64 p.lo, .int .i64 p.hi, .int .i64 p.gr, .slice ad m c] x → Calls Try.prog 20 #[] x (TrueE w)) := fun x hx => (awake11_any x).mono fun e w' h => ⟨h.1, hx.2.1.trans (h.2.mono hx.2.1.size)⟩
  go_enter Try.func5, Try.ntmps5
  go_wp2_with fail
  go_quiet (fail)
  have HL0 := hid (HL.out.later (below_drewN (Below.refl _ _) nq))
  generalize World.drewN _ nq = w0 at HL0 ⊢
  clear q1 HL
  have q0 := HL0.out.1.c9
  cases hsmall : t.small 14 with
  | false =>
    rw [hsmall] at HSM
    clear hsmall
    go_wp2_with fail
    refine (HSM.out _ HL0.out).mono ?_
    rintro e w1 ⟨rfl, hb⟩
    have HL1 := hid (HL0.out.later hb)
    clear hb q0
    go_wp2_with fail
    refine (HAW.out _ HL1.out).mono ?_
    rintro e w99 ⟨rfl, hb⟩
    have HB := hid hb
    clear hb
    go_wp2_with fail
    go_ret
    exact ⟨rfl, HB.out⟩
  | true =>
  rw [hsmall] at HSM
  have hsz := Re.small_size hsmall
  have HSZ := hid hsz
  clear hsmall
  by_cases hs : s.size ≤ 12
  case neg =>
    have hsI : (12 : Int) < s.size := by omega
    go_wp2_with fail
    refine (HSM.out _ HL0.out).mono ?_
    rintro e w1 ⟨rfl, hb⟩
    have HL1 := hid (HL0.out.later hb)
    clear hb q0
    go_wp2_with fail
    refine (HAW.out _ HL1.out).mono ?_
    rintro e w99 ⟨rfl, hb⟩
    have HB := hid hb
    clear hb
    go_wp2_with fail
    go_ret
    exact ⟨rfl, HB.out⟩
  have hsI : ¬ (12 : Int) < s.size := by omega
  go_wp2_with fail
  refine (HSM.out _ HL0.out).mono ?_
  rintro e w1 ⟨rfl, hb⟩
  have HL1 := hid (HL0.out.later hb)
  clear hb q0 HSM
  have q0 := HL1.out.1.c9
  have HCK := hid (CheckRef_any t w1 [.int .i64 p.op, .int .u64 p.set.a, .int .u64 p.set.b, .int .u64 p.set.c, .int .u64 p.set.d, .int .i64 p.lo, .int .i64 p.hi, .int .i64 p.gr, .slice ad m c] HL1.out.2.2 (by have := HSZ.out; omega))
  by_cases he : t.err = 0
  case neg =>
    have heb : (t.err != 0) = true := by simpa using he
    clear he
    go_wp2_with fail
    refine HCK.out.mono ?_
    rintro e w2 ⟨rfl, hb⟩
    have HL2 := hid (HL1.out.later hb)
    clear hb q0
    go_wp2_with fail
    refine (HAW.out _ HL2.out).mono ?_
    rintro e w99 ⟨rfl, hb⟩
    have HB := hid hb
    clear hb
    go_wp2_with fail
    go_ret
    exact ⟨rfl, HB.out⟩
  rw [he] at HCK
  have HE0 := hid he
  clear he
  go_wp2_with fail
  refine HCK.out.mono ?_
  rintro e w2 ⟨rfl, hb⟩
  have HL2 := hid (HL1.out.later hb)
  clear hb q0 HCK
  have q0 := HL2.out.1.c9
  have HBK := hid (BackRef_any t w2 [.int .i64 p.op, .int .u64 p.set.a, .int .u64 p.set.b, .int .u64 p.set.c, .int .u64 p.set.d, .int .i64 p.lo, .int .i64 p.hi, .int .i64 p.gr, .slice ad m c] HL2.out.2.2 (by have := HSZ.out; omega))
  obtain ⟨bk, hbk⟩ : ∃ b, b = decide (0 < t.backs) := ⟨_, rfl⟩
  rw [← hbk] at HBK
  clear hbk
  cases bk with
  | true =>
    go_wp2_with fail
    refine HBK.out.mono ?_
    rintro e w3 ⟨rfl, hb⟩
    have HL3 := hid (HL2.out.later hb)
    clear hb q0
    go_wp2_with fail
    refine (HAW.out _ HL3.out).mono ?_
    rintro e w99 ⟨rfl, hb⟩
    have HB := hid hb
    clear hb
    go_wp2_with fail
    go_ret
    exact ⟨rfl, HB.out⟩
  | false =>
  go_wp2_with fail
  refine HBK.out.mono ?_
  rintro e w3 ⟨rfl, hb⟩
  have HL3 := hid (HL2.out.later hb)
  clear hb q0 HBK
  have q0 := HL3.out.1.c9
  have HCP := hid (CompileRef_any t lines w3 [.int .i64 p.op, .int .u64 p.set.a, .int .u64 p.set.b, .int .u64 p.set.c, .int .u64 p.set.d, .int .i64 p.lo, .int .i64 p.hi, .int .i64 p.gr, .slice ad m c] HL3.out.2.2 (by have := HSZ.out; omega))
  by_cases hc : t.compiled.2 = 0
  case neg =>
    generalize hce : t.compiled.2 = ce at *
    have HCE := hid hce
    clear hce
    have hcb : (ce != 0) = true := by simpa using hc
    clear hc
    go_wp2_with fail
    refine HCP.out.mono ?_
    rintro e w4 ⟨a4, n4, c4, rfl, hown, hb⟩
    rw [HCE.out]
    have HL4 := hid ((HL3.out.later hb).later ((Below.refl _ _).alloc (Nat.le_refl _) (.cells #[.slice a4 n4 c4, .bool (lines && decide (ce = 0))] 59)))
    clear hb q0 hown
    go_wp2_with fail
    refine (HAW.out _ HL4.out).mono ?_
    rintro e w99 ⟨rfl, hb⟩
    have HB := hid hb
    clear hb
    go_wp2_with fail
    go_ret
    exact ⟨rfl, HB.out⟩
  go_wp2_with fail
  refine HCP.out.mono ?_
  rintro e w4 ⟨a4, n4, c4, rfl, hown, hb⟩
  have hn4 : n4 = t.compiled.1.length := by
    obtain ⟨a', c', hv⟩ := hown.form
    injection hv
  subst hn4
  rw [hc, show (lines && decide ((0 : Int) = 0)) = lines by simp]
  have HC0 := hid hc
  have hal := (Below.refl w4.heap.size w4).alloc (Nat.le_refl _) (.cells #[.slice a4 t.compiled.1.length c4, .bool lines] 59)
  have HL4 := hid (HL3.out.later hb |>.later hal)
  have HPR := hid (⟨InsAt.of_own (hown.below hal), (Row.new rfl : Row (w4.alloc (.cells #[.slice a4 t.compiled.1.length c4, .bool lines] 59)) w4.heap.size [.slice a4 t.compiled.1.length c4, .bool lines] 59)⟩ : InsAt _ a4 t.compiled.1 ∧ _)
  have hL4 := HL3.out.later hb
  clear q0
  have q0 := hL4.1.c9
  have hz4 := hL4.1.lt
  have HMX := hid (Re.compiled_max t)
  clear hb hown hal hL4 HCP hc
  go_upto_region 5 with fail
  generalize w4.alloc (.cells #[.slice a4 t.compiled.1.length c4, .bool lines] 59) = w5 at *
  generalize w4.heap.size = b5 at *
  clear q0 hz4
  have q0 := HL4.out.1.c9
  have hz5 := HL4.out.1.lt
  have hz6 := HPR.out.2.lt
  have q5 := HPR.out.2.cell 0
  have q6 := HPR.out.2.cell 1
  obtain ⟨⟨sp, okr, y⟩, hr⟩ : ∃ r, r = atR (parsesR t s at_ lines) at_ := ⟨_, rfl⟩
  obtain ⟨⟨sp2, ok2, z⟩, hr2⟩ : ∃ r, r = leftmostR t s at_ lines := ⟨_, rfl⟩
  have hp1 := RAt9_any w5 t [.int .i64 p.op, .int .u64 p.set.a, .int .u64 p.set.b, .int .u64 p.set.c, .int .u64 p.set.d, .int .i64 p.lo, .int .i64 p.hi, .int .i64 p.gr, .slice ad m c] s at_ lines HL4.out.2.2 (by have := HSZ.out; omega) (by omega)
  rw [← hr] at hp1
  have HP1 := hid hp1
  have HRR := hid (⟨hr, hr2⟩ : _ ∧ _)
  clear hp1 hr hr2
  go_wp2_with fail
  refine HP1.out.mono ?_
  rintro e w6 ⟨a6, c6, rfl, hb, hs6⟩
  dsimp only at hs6 ⊢
  go_upto_region 8 with fail
  have hal := (Below.refl w6.heap.size w6).alloc (Nat.le_refl _) (.cells #[.slice a6 sp.length c6] 43)
  have HL7 := hid (HL4.out.later hb |>.later hal)
  have HPR7 := hid (⟨(HPR.out.1.below hb (Nat.le_refl _)).below hal (Nat.le_refl _), ((fun k => Row.below k hal k.lt) (HPR.out.2.below hb HPR.out.2.lt)), (Row.new rfl : Row (w6.alloc (.cells #[.slice a6 sp.length c6] 43)) w6.heap.size [.slice a6 sp.length c6] 43), hs6.below hal⟩ : InsAt _ a4 t.compiled.1 ∧ Row _ b5 _ _ ∧ _ ∧ SpQ _ _ _)
  generalize w6.alloc (.cells #[.slice a6 sp.length c6] 43) = w7 at *
  generalize w6.heap.size = b7 at *
  clear hb hs6 hal HP1 HPR HL4 q0 q5 q6 hz5 hz6
  have q0 := HL7.out.1.c9
  have hp2 := RLeft_any w7 t [.int .i64 p.op, .int .u64 p.set.a, .int .u64 p.set.b, .int .u64 p.set.c, .int .u64 p.set.d, .int .i64 p.lo, .int .i64 p.hi, .int .i64 p.gr, .slice ad m c] s at_ lines HL7.out.2.2 (by have := HSZ.out; omega) (by omega)
  rw [← HRR.out.2] at hp2
  have HP2 := hid hp2
  clear hp2
  go_wp2_with fail
  refine HP2.out.mono ?_
  rintro e w8 ⟨a8, c8, rfl, hb, hs8⟩
  dsimp only at hs8 ⊢
  go_upto_region 9 with fail
  have hal := (Below.refl w8.heap.size w8).alloc (Nat.le_refl _) (.cells #[.slice a8 sp2.length c8] 43)
  have HL9 := hid (HL7.out.later hb |>.later hal)
  have HPR9 := hid (⟨(HPR7.out.1.below hb (Nat.le_refl _)).below hal (Nat.le_refl _), ((fun k => Row.below k hal k.lt) (HPR7.out.2.1.below hb HPR7.out.2.1.lt)), ((fun k => Row.below k hal k.lt) (HPR7.out.2.2.1.below hb HPR7.out.2.2.1.lt)), (HPR7.out.2.2.2.below hb).below hal, (Row.new rfl : Row (w8.alloc (.cells #[.slice a8 sp2.length c8] 43)) w8.heap.size [.slice a8 sp2.length c8] 43), hs8.below hal⟩ : InsAt _ a4 t.compiled.1 ∧ Row _ b5 _ _ ∧ Row _ b7 _ _ ∧ SpQ _ _ _ ∧ _ ∧ SpQ _ _ _)
  generalize w8.alloc (.cells #[.slice a8 sp2.length c8] 43) = w9 at *
  generalize w8.heap.size = b9 at *
  clear hb hs8 hal HP2 HPR7 HL7 q0
  have q5 := HPR9.out.2.1.cell 0
  have q6 := HPR9.out.2.1.cell 1
  have HLG := hid (Longest_any w9 ⟨t.compiled.1, lines, s.data.toList⟩ a4 c4 s at_ ⟨HPR9.out.1, Re.compiled_wf HC0.out HWF.out, rfl, by omega, HMX.out⟩)
  go_wp2_with fail
  refine HLG.out.mono ?_
  intro e w10 hlg
  obtain ⟨hb, b, hlb, rfl⟩ := hlg.val
  have HLB := hid hlb
  have HL10 := hid (HL9.out.later hb)
  have HPR10 := hid (⟨HPR9.out.1.below hb (Nat.le_refl _), HPR9.out.2.1.below hb HPR9.out.2.1.lt, HPR9.out.2.2.1.below hb HPR9.out.2.2.1.lt, HPR9.out.2.2.2.1.below hb, HPR9.out.2.2.2.2.1.below hb HPR9.out.2.2.2.2.1.lt, HPR9.out.2.2.2.2.2.below hb⟩ : InsAt w10 a4 t.compiled.1 ∧ Row w10 b5 _ _ ∧ Row w10 b7 _ _ ∧ SpQ w10 _ _ ∧ Row w10 b9 _ _ ∧ SpQ w10 _ _)
  clear hb hlb hlg HLG HPR9 HL9 q5 q6
  have q5 := HPR10.out.2.1.cell 0
  have q6 := HPR10.out.2.1.cell 1
  have HSR := hid (Search_any w10 ⟨t.compiled.1, lines, s.data.toList⟩ a4 c4 s at_ ⟨HPR10.out.1, Re.compiled_wf HC0.out HWF.out, rfl, by omega, HMX.out⟩)
  go_wp2_with fail
  refine HSR.out.mono ?_
  intro e w11 hsr
  obtain ⟨hb, b2, hlb, rfl⟩ := hsr.val
  have HSB := hid hlb
  go_upto_region 11 with fail
  have hal := (Below.refl w11.heap.size w11).alloc (Nat.le_refl _) (.cells #[.int .i64 (b2.getD (0, 0)).1, .int .i64 (b2.getD (0, 0)).2] 47)
  have HL12 := hid (HL10.out.later hb |>.later hal)
  have HPR12 := hid (⟨((fun k => Row.below k hal k.lt) (HPR10.out.2.2.1.below hb HPR10.out.2.2.1.lt)), (HPR10.out.2.2.2.1.below hb).below hal, ((fun k => Row.below k hal k.lt) (HPR10.out.2.2.2.2.1.below hb HPR10.out.2.2.2.2.1.lt)), (HPR10.out.2.2.2.2.2.below hb).below hal, (Row.new rfl : Row (w11.alloc (.cells #[.int .i64 (b2.getD (0, 0)).1, .int .i64 (b2.getD (0, 0)).2] 47)) w11.heap.size [.int .i64 (b2.getD (0, 0)).1, .int .i64 (b2.getD (0, 0)).2] 47)⟩ : Row _ b7 _ _ ∧ SpQ _ _ _ ∧ Row _ b9 _ _ ∧ SpQ _ _ _ ∧ _)
  generalize w11.alloc (.cells #[.int .i64 (b2.getD (0, 0)).1, .int .i64 (b2.getD (0, 0)).2] 47) = w12 at *
  generalize w11.heap.size = b12 at *
  clear hb hlb hal hsr HSR HPR10 HL10 q5 q6
  have hea := exact_at HC0.out HLB.out
  have hel := exact_left HC0.out HSB.out
  rw [← HRR.out.1] at hea
  rw [← HRR.out.2] at hel
  dsimp only at hea hel
  have hyc : (y = 0 ∧ ∃ (e : Nat) (sp' : Spans), b = some e ∧ okr = true ∧ sp = (at_, (e : Int)) :: sp') ∨ (y = 0 ∧ b = none ∧ okr = false) ∨ (y = 2 ∧ b = none ∧ b2 = none) ∨ (y ≠ 0 ∧ y ≠ 2) := by
    by_cases h0 : y = 0
    · obtain ⟨h1, h2⟩ := hea.1 h0
      cases b with
      | none => exact .inr (.inl ⟨h0, rfl, h1⟩)
      | some e => obtain ⟨sp', h3⟩ := h2 e rfl; exact .inl ⟨h0, e, sp', rfl, h1, h3⟩
    by_cases h2 : y = 2
    · obtain ⟨h1, h3⟩ := hea.2 h2
      exact .inr (.inr (.inl ⟨h2, h3, hel.2 h1⟩))
    · exact .inr (.inr (.inr ⟨h0, h2⟩))
  have hzc : (z = 0 ∧ ∃ (f e : Nat) (sp' : Spans), b2 = some (f, e) ∧ ok2 = true ∧ sp2 = ((f : Int), (e : Int)) :: sp') ∨ (z = 0 ∧ b2 = none ∧ ok2 = false) ∨ z ≠ 0 := by
    by_cases h0 : z = 0
    · obtain ⟨h1, h2⟩ := hel.1 h0
      cases b2 with
      | none => exact .inr (.inl ⟨h0, rfl, h1⟩)
      | some x => obtain ⟨sp', h3⟩ := h2 x rfl; exact .inl ⟨h0, x.1, x.2, sp', rfl, h1, h3⟩
    · exact .inr (.inr h0)
  have HZC := hid hzc
  clear hea hel hzc HRR HLB HSB
  have q7 := HPR12.out.1.cell 0
  have q9 := HPR12.out.2.2.1.cell 0
  have q12 := HPR12.out.2.2.2.2.cell 0
  have q13 := HPR12.out.2.2.2.2.cell 1
  have hz7 := HPR12.out.1.lt
  have hz9 := HPR12.out.2.2.1.lt
  have hz12 := HPR12.out.2.2.2.2.lt
  rcases hyc with ⟨rfl, e1, sp'1, rfl, rfl, rfl⟩ | ⟨rfl, rfl, rfl⟩ | ⟨rfl, rfl, hb2n⟩ | ⟨hy0, hy2⟩
  · obtain ⟨a', c', hv, h0 | ⟨bb1, more1, ha1, hrow1⟩⟩ := HPR12.out.2.1
    · cases h0
    injection hv with hv1 hv2 hv3
    subst hv1
    subst ha1
    have p0 := hrow1.cell 0
    have p1 := hrow1.cell 1
    have hp0 := hrow1.lt
    simp only [spc, List.cons_append, List.getElem?_cons_zero, List.getElem?_cons_succ] at p0 p1
    clear hrow1 hv2 hv3
    rcases HZC.out with ⟨rfl, f2, e2, sp'2, hb2, rfl, rfl⟩ | ⟨rfl, hb2, rfl⟩ | hz0
    · clear HZC
      subst hb2
      obtain ⟨a', c', hv, h0 | ⟨bb2, more2, ha2, hrow2⟩⟩ := HPR12.out.2.2.2.1
      · cases h0
      injection hv with hv1 hv2 hv3
      subst hv1
      subst ha2
      have r0 := hrow2.cell 0
      have r1 := hrow2.cell 1
      have hr0 := hrow2.lt
      simp only [spc, List.cons_append, List.getElem?_cons_zero, List.getElem?_cons_succ] at r0 r1
      have heq := run_eqIn_span (f2 : Int) (e2 : Int) (f2 : Int) (e2 : Int)
      clear hrow2 hv2 hv3
      go_wp2_with fail
      go_quiet (fail)
      go_wp2_with fail
      refine (HAW.out _ (HL12.out.later (below_drewN (Below.refl _ _) _))).mono ?_
      rintro e w99 ⟨rfl, hb⟩
      have HB := hid hb
      clear hb
      go_wp2_with fail
      go_ret
      exact ⟨rfl, HB.out⟩
    · clear HZC
      subst hb2
      go_wp2_with fail
      go_quiet (fail)
      go_wp2_with fail
      refine (HAW.out _ (HL12.out.later (below_drewN (Below.refl _ _) _))).mono ?_
      rintro e w99 ⟨rfl, hb⟩
      have HB := hid hb
      clear hb
      go_wp2_with fail
      go_ret
      exact ⟨rfl, HB.out⟩
    · clear HZC
      have hzb : (z == 0) = false := by simp [hz0]
      clear hz0
      go_wp2_with fail
      go_quiet (fail)
      go_wp2_with fail
      refine (HAW.out _ (HL12.out.later (below_drewN (Below.refl _ _) _))).mono ?_
      rintro e w99 ⟨rfl, hb⟩
      have HB := hid hb
      clear hb
      go_wp2_with fail
      go_ret
      exact ⟨rfl, HB.out⟩
  · rcases HZC.out with ⟨rfl, f2, e2, sp'2, hb2, rfl, rfl⟩ | ⟨rfl, hb2, rfl⟩ | hz0
    · clear HZC
      subst hb2
      obtain ⟨a', c', hv, h0 | ⟨bb2, more2, ha2, hrow2⟩⟩ := HPR12.out.2.2.2.1
      · cases h0
      injection hv with hv1 hv2 hv3
      subst hv1
      subst ha2
      have r0 := hrow2.cell 0
      have r1 := hrow2.cell 1
      have hr0 := hrow2.lt
      simp only [spc, List.cons_append, List.getElem?_cons_zero, List.getElem?_cons_succ] at r0 r1
      have heq := run_eqIn_span (f2 : Int) (e2 : Int) (f2 : Int) (e2 : Int)
      clear hrow2 hv2 hv3
      go_wp2_with fail
      go_quiet (fail)
      go_wp2_with fail
      refine (HAW.out _ (HL12.out.later (below_drewN (Below.refl _ _) _))).mono ?_
      rintro e w99 ⟨rfl, hb⟩
      have HB := hid hb
      clear hb
      go_wp2_with fail
      go_ret
      exact ⟨rfl, HB.out⟩
    · clear HZC
      subst hb2
      go_wp2_with fail
      go_quiet (fail)
      go_wp2_with fail
      refine (HAW.out _ (HL12.out.later (below_drewN (Below.refl _ _) _))).mono ?_
      rintro e w99 ⟨rfl, hb⟩
      have HB := hid hb
      clear hb
      go_wp2_with fail
      go_ret
      exact ⟨rfl, HB.out⟩
    · clear HZC
      have hzb : (z == 0) = false := by simp [hz0]
      clear hz0
      go_wp2_with fail
      go_quiet (fail)
      go_wp2_with fail
      refine (HAW.out _ (HL12.out.later (below_drewN (Below.refl _ _) _))).mono ?_
      rintro e w99 ⟨rfl, hb⟩
      have HB := hid hb
      clear hb
      go_wp2_with fail
      go_ret
      exact ⟨rfl, HB.out⟩
  · rcases HZC.out with ⟨rfl, f2, e2, sp'2, hb2, rfl, rfl⟩ | ⟨rfl, hb2, rfl⟩ | hz0
    · clear HZC
      subst hb2n
      cases hb2
    · clear HZC
      subst hb2n
      clear hb2
      go_wp2_with fail
      go_quiet (fail)
      go_wp2_with fail
      refine (HAW.out _ (HL12.out.later (below_drewN (Below.refl _ _) _))).mono ?_
      rintro e w99 ⟨rfl, hb⟩
      have HB := hid hb
      clear hb
      go_wp2_with fail
      go_ret
      exact ⟨rfl, HB.out⟩
    · clear HZC
      subst hb2n
      have hzb : (z == 0) = false := by simp [hz0]
      clear hz0
      go_wp2_with fail
      go_quiet (fail)
      go_wp2_with fail
      refine (HAW.out _ (HL12.out.later (below_drewN (Below.refl _ _) _))).mono ?_
      rintro e w99 ⟨rfl, hb⟩
      have HB := hid hb
      clear hb
      go_wp2_with fail
      go_ret
      exact ⟨rfl, HB.out⟩
  · have hyb : (y == 0) = false := by simp [hy0]
    have hyb2 : (y != 2) = true := by simp [hy2]
    clear hy0 hy2
    rcases HZC.out with ⟨rfl, f2, e2, sp'2, hb2, rfl, rfl⟩ | ⟨rfl, hb2, rfl⟩ | hz0
    · clear HZC
      subst hb2
      obtain ⟨a', c', hv, h0 | ⟨bb2, more2, ha2, hrow2⟩⟩ := HPR12.out.2.2.2.1
      · cases h0
      injection hv with hv1 hv2 hv3
      subst hv1
      subst ha2
      have r0 := hrow2.cell 0
      have r1 := hrow2.cell 1
      have hr0 := hrow2.lt
      simp only [spc, List.cons_append, List.getElem?_cons_zero, List.getElem?_cons_succ] at r0 r1
      have heq := run_eqIn_span (f2 : Int) (e2 : Int) (f2 : Int) (e2 : Int)
      clear hrow2 hv2 hv3
      go_wp2_with fail
      go_quiet (fail)
      go_wp2_with fail
      refine (HAW.out _ (HL12.out.later (below_drewN (Below.refl _ _) _))).mono ?_
      rintro e w99 ⟨rfl, hb⟩
      have HB := hid hb
      clear hb
      go_wp2_with fail
      go_ret
      exact ⟨rfl, HB.out⟩
    · clear HZC
      subst hb2
      go_wp2_with fail
      go_quiet (fail)
      go_wp2_with fail
      refine (HAW.out _ (HL12.out.later (below_drewN (Below.refl _ _) _))).mono ?_
      rintro e w99 ⟨rfl, hb⟩
      have HB := hid hb
      clear hb
      go_wp2_with fail
      go_ret
      exact ⟨rfl, HB.out⟩
    · clear HZC
      have hzb : (z == 0) = false := by simp [hz0]
      clear hz0
      go_wp2_with fail
      go_quiet (fail)
      go_wp2_with fail
      refine (HAW.out _ (HL12.out.later (below_drewN (Below.refl _ _) _))).mono ?_
      rintro e w99 ⟨rfl, hb⟩
      have HB := hid hb
      clear hb
      go_wp2_with fail
      go_ret
      exact ⟨rfl, HB.out⟩
end Go.Proofs.Ythnpbopnpdlmnaa
