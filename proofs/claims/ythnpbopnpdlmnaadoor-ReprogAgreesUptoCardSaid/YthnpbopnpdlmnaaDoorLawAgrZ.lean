/- The law ReprogAgrees. -/
import Derived.Test.YthnpbopnpdlmnaaDoorA24
import Derived.Test.YthnpbopnpdlmnaaDoorA43
import Derived.Test.YthnpbopnpdlmnaaDoorA44
namespace Go.Proofs.YthnpbopnpdlmnaaDoor
open Go.RowKit
attribute [local go_sem] gives givesUpon

theorem parsesR_some {t : Re} {s : ByteArray} {i : Nat} {lines : Bool} (he : t.err = 0) (hi : i ≤ s.size) (h : (parsesR t s i lines).2 = 0) : parses s.data.toList lines t i (unsetAll t.groups) = some (parsesR t s i lines).1 := by
  have h0 : chk t s i = 0 := by
    rcases chk_range (s := s) (at_ := i) he with ⟨h0, -⟩ | ⟨-, h1⟩
    · exact h0
    · omega
  revert h
  unfold parsesR
  rw [if_neg (by simpa using h0), show ((i : Nat) : Int).toNat = i by omega]
  cases parses s.data.toList lines t i (unsetAll t.groups) with
  | none => intro h; exact absurd (show (11 : Int) = 0 from h) (by decide)
  | some l => intro _; rfl
theorem agrees_law {t : Re} {s : ByteArray} {i d : Nat} {lines : Bool} (hc : t.compiled.2 = 0) (hi : i ≤ s.size) (hd : i + d ≤ s.size) {l : List Parse} (hl : parses s.data.toList lines t i (unsetAll t.groups) = some l) {nl : List Nat} (hn : ∀ x, x ∈ nl ↔ (⟨t.compiled.1, lines, s.data.toList⟩ : Sim).R i d x) :
    some6L ⟨t.compiled.1, lines, s.data.toList⟩ nl = decide (i + d ∈ l.map Prod.fst) := by
  have hh := (parses_hit hc hi hl).1 (i + d) (by omega) hd
  rw [Bool.eq_iff_iff, decide_eq_true_eq]
  unfold some6L
  rw [List.any_eq_true]
  have hm : i + d ∈ l.map Prod.fst ↔ Has l (i + d) := by unfold Has; rw [List.mem_map]
  rw [hm, ← hh]
  unfold hit
  rw [show i + d - i = d by omega]
  constructor
  · rintro ⟨k, h1, h2⟩; exact ⟨k, by simpa using h2, (hn k).1 h1⟩
  · rintro ⟨k, h1, h2⟩; exact ⟨k, (hn k).2 h2, by simpa using h1⟩
def LAg (w : World) (t : Re) (cs CXL : List Value) (x : World) : Prop := (Row x w.heap.size cs 28 ∧ Row x (w.heap.size + 1) CXL 30) ∧ Below w.heap.size w x ∧ t.In x cs ∧ Tabs9 x
theorem LAg.later {w : World} {t : Re} {cs CXL : List Value} {x y : World} (h : LAg w t cs CXL x) (hb : Below x.heap.size x y) : LAg w t cs CXL y :=
  ⟨⟨h.1.1.below hb h.1.1.lt, h.1.2.below hb h.1.2.lt⟩, h.2.1.trans (hb.mono h.2.1.size), h.2.2.1.below hb, h.2.2.2.on hb⟩
def TrueA (w : World) (e : Ending) (w' : World) : Prop := e = .returned (.bool true) ∧ Below w.heap.size w w'
set_option maxRecDepth 100000 in
set_option maxHeartbeats 32000000 in
theorem LawAgrees_any (w : World) (t : Re) (cs : List Value) (s : ByteArray) (at_ : Int) (lines : Bool) (hin : t.In w cs) (hat : I64 at_) (htb : Tabs9 w) :
    Calls Tryd.prog 3 #[.agg cs.toArray, .agg #[.string s, .int .i64 at_, .bool lines]] w fun e w' => e = .returned (.bool true) ∧ Below w.heap.size w w' := by
  have HWF := hid (Re.In.wfs t cs hin)
  obtain ⟨p, ad, m, c, rfl⟩ := Re.cells_shape hin
  have hBl : Below w.heap.size w ((w.alloc (.cells #[.int .i64 p.op, .int .u64 p.set.a, .int .u64 p.set.b, .int .u64 p.set.c, .int .u64 p.set.d, .int .i64 p.lo, .int .i64 p.hi, .int .i64 p.gr, .slice ad m c] 28)).alloc (.cells #[.string s, .int .i64 at_, .bool lines] 30)) := ((Below.refl w.heap.size w).alloc (Nat.le_refl _) _).alloc (by simp) _
  have hL : LAg w t [.int .i64 p.op, .int .u64 p.set.a, .int .u64 p.set.b, .int .u64 p.set.c, .int .u64 p.set.d, .int .i64 p.lo, .int .i64 p.hi, .int .i64 p.gr, .slice ad m c] [.string s, .int .i64 at_, .bool lines] ((w.alloc (.cells #[.int .i64 p.op, .int .u64 p.set.a, .int .u64 p.set.b, .int .u64 p.set.c, .int .u64 p.set.d, .int .i64 p.lo, .int .i64 p.hi, .int .i64 p.gr, .slice ad m c] 28)).alloc (.cells #[.string s, .int .i64 at_, .bool lines] 30)) := ⟨⟨(Row.new rfl).alloc _, Row.new (by simp)⟩, hBl, hin.below hBl, htb.on hBl⟩
  have HL0 := hid hL
  clear hBl hL hin htb
  have HSM := hid (fun (x : World) (hx : LAg w t [.int .i64 p.op, .int .u64 p.set.a, .int .u64 p.set.b, .int .u64 p.set.c, .int .u64 p.set.d, .int .i64 p.lo, .int .i64 p.hi, .int .i64 p.gr, .slice ad m c] [.string s, .int .i64 at_, .bool lines] x) => SmallB_any x t [.int .i64 p.op, .int .u64 p.set.a, .int .u64 p.set.b, .int .u64 p.set.c, .int .u64 p.set.d, .int .i64 p.lo, .int .i64 p.hi, .int .i64 p.gr, .slice ad m c] 14 hx.2.2.1 (by omega))
  have HAW : Hid (∀ x, LAg w t [.int .i64 p.op, .int .u64 p.set.a, .int .u64 p.set.b, .int .u64 p.set.c, .int .u64 p.set.d, .int .i64 p.lo, .int .i64 p.hi, .int .i64 p.gr, .slice ad m c] [.string s, .int .i64 at_, .bool lines] x → Calls Tryd.prog 5 #[] x (TrueA w)) := fun x hx => (awake_any x).mono fun e w' h => ⟨h.1, hx.2.1.trans (h.2.mono hx.2.1.size)⟩
  have q0 := HL0.out.1.1.c9
  have q1 := HL0.out.1.2.three9
  have hlo := hat.1
  have hhi := hat.2
  clear hat
  go_enter Tryd.func3, Tryd.ntmps3
  cases hsmall : t.small 14 with
  | false =>
    rw [hsmall] at HSM
    clear hsmall
    go_wp2_with fail
    refine (HSM.out _ HL0.out).mono ?_
    rintro e w1 ⟨rfl, hb⟩
    have HL1 := hid (HL0.out.later hb)
    clear hb q0 q1
    go_wp2_with fail
    refine (HAW.out _ HL1.out).mono ?_
    rintro e w99 ⟨rfl, hb⟩
    have HB := hid hb
    clear hb
    go_wp2_with fail
    go_ret
    exact ⟨rfl, HB.out⟩
  | true =>
  rw [hsmall] at HSM
  have hsz := Re.small_size hsmall
  have HSZ := hid hsz
  clear hsmall hsz
  by_cases hbad : 12 < s.size ∨ at_ < 0 ∨ (s.size : Int) < at_
  case pos =>
    by_cases hb1 : 12 < s.size
    · have hsI : (12 : Int) < s.size := by omega
      clear hbad
      go_wp2_with fail
      refine (HSM.out _ HL0.out).mono ?_
      rintro e w1 ⟨rfl, hb⟩
      have HL1 := hid (HL0.out.later hb)
      clear q0 q1
      have q0 := HL1.out.1.1.c9
      have q1 := HL1.out.1.2.three9
      clear hb
      go_wp2_with fail
      refine (HAW.out _ HL1.out).mono ?_
      rintro e w99 ⟨rfl, hb⟩
      have HB := hid hb
      clear hb
      go_wp2_with fail
      go_ret
      exact ⟨rfl, HB.out⟩
    · have hsI : ¬ (12 : Int) < s.size := by omega
      by_cases hb2 : at_ < 0
      · clear hbad hb1
        go_wp2_with fail
        refine (HSM.out _ HL0.out).mono ?_
        rintro e w1 ⟨rfl, hb⟩
        have HL1 := hid (HL0.out.later hb)
        clear q0 q1
        have q0 := HL1.out.1.1.c9
        have q1 := HL1.out.1.2.three9
        clear hb
        go_wp2_with fail
        refine (HAW.out _ HL1.out).mono ?_
        rintro e w99 ⟨rfl, hb⟩
        have HB := hid hb
        clear hb
        go_wp2_with fail
        go_ret
        exact ⟨rfl, HB.out⟩
      · have hb3 : (s.size : Int) < at_ := by omega
        clear hbad hb1
        go_wp2_with fail
        refine (HSM.out _ HL0.out).mono ?_
        rintro e w1 ⟨rfl, hb⟩
        have HL1 := hid (HL0.out.later hb)
        clear q0 q1
        have q0 := HL1.out.1.1.c9
        have q1 := HL1.out.1.2.three9
        clear hb
        go_wp2_with fail
        refine (HAW.out _ HL1.out).mono ?_
        rintro e w99 ⟨rfl, hb⟩
        have HB := hid hb
        clear hb
        go_wp2_with fail
        go_ret
        exact ⟨rfl, HB.out⟩
  obtain ⟨i0, rfl⟩ : ∃ n : Nat, at_ = n := ⟨at_.toNat, by omega⟩
  have hs12 : s.size ≤ 12 := by omega
  have hi0 : i0 ≤ s.size := by omega
  have hsI : ¬ (12 : Int) < s.size := by omega
  have hiI : ¬ (i0 : Int) < 0 := by omega
  have hiJ : ¬ (s.size : Int) < i0 := by omega
  clear hbad hlo hhi
  go_wp2_with fail
  refine (HSM.out _ HL0.out).mono ?_
  rintro e w1 ⟨rfl, hb⟩
  have HL1 := hid (HL0.out.later hb)
  clear hb q0 q1 HSM HL0
  have q0 := HL1.out.1.1.c9
  have q1 := HL1.out.1.2.three9
  have HCP := hid (Compile_any t lines w1 [.int .i64 p.op, .int .u64 p.set.a, .int .u64 p.set.b, .int .u64 p.set.c, .int .u64 p.set.d, .int .i64 p.lo, .int .i64 p.hi, .int .i64 p.gr, .slice ad m c] HL1.out.2.2.1 (by have := HSZ.out; omega))
  by_cases hc : t.compiled.2 = 0
  case neg =>
    generalize hce : t.compiled.2 = ce at *
    have HCE := hid hce
    clear hce
    have hcb : (ce != 0) = true := by simpa using hc
    clear hc
    go_wp2_with fail
    refine HCP.out.mono ?_
    rintro e w4 ⟨a4, n4, c4, rfl, hown, hb⟩
    rw [HCE.out]
    go_upto_region 4 with fail
    have HL4 := hid ((HL1.out.later hb).later ((Below.refl _ _).alloc (Nat.le_refl _) (.cells #[.slice a4 n4 c4, .bool (lines && decide (ce = 0))] 35)))
    generalize w4.alloc (.cells #[.slice a4 n4 c4, .bool (lines && decide (ce = 0))] 35) = w5 at *
    clear hb q0 q1 hown
    have q0 := HL4.out.1.1.c9
    have q1 := HL4.out.1.2.three9
    have HPP := hid (PParses_any w5 t [.int .i64 p.op, .int .u64 p.set.a, .int .u64 p.set.b, .int .u64 p.set.c, .int .u64 p.set.d, .int .i64 p.lo, .int .i64 p.hi, .int .i64 p.gr, .slice ad m c] s i0 lines HL4.out.2.2.1 (by have := HSZ.out; omega) (by omega) HL4.out.2.2.2)
    go_wp2_with fail
    refine HPP.out.mono ?_
    rintro e w6 ⟨a6, c6, rfl, hb, hps⟩
    have HL6 := hid (HL4.out.later hb)
    clear hb hps q0 q1
    go_wp2_with fail
    refine (HAW.out _ HL6.out).mono ?_
    rintro e w99 ⟨rfl, hb⟩
    have HB := hid hb
    clear hb
    go_wp2_with fail
    go_ret
    exact ⟨rfl, HB.out⟩
  go_wp2_with fail
  refine HCP.out.mono ?_
  rintro e w4 ⟨a4, n4, c4, rfl, hown, hb⟩
  have hn4 : n4 = t.compiled.1.length := by
    obtain ⟨a', c', hv⟩ := hown.form
    injection hv
  subst hn4
  rw [hc, show (lines && decide ((0 : Int) = 0)) = lines by simp]
  have hR := Re.compiled_right hc
  have HC0 := hid hc
  have HRR := hid hR
  obtain ⟨ib, io, ha, -, -⟩ := (InsAt.of_own hown).at (k := 0) (by have := hR.1.1; omega)
  subst ha
  go_upto_region 4 with fail
  have hal := (Below.refl w4.heap.size w4).alloc (Nat.le_refl _) (.cells #[.slice (some ⟨ib, io, none⟩) t.compiled.1.length c4, .bool lines] 35)
  have HL5 := hid ((HL1.out.later hb).later hal)
  have HPR := hid (⟨hown.below hal, Row.new rfl⟩ : OwnI _ w1.heap.size (.slice (some ⟨ib, io, none⟩) t.compiled.1.length c4) t.compiled.1 ∧ Row (w4.alloc (.cells #[.slice (some ⟨ib, io, none⟩) t.compiled.1.length c4, .bool lines] 35)) w4.heap.size [.slice (some ⟨ib, io, none⟩) t.compiled.1.length c4, .bool lines] 35)
  generalize w4.alloc (.cells #[.slice (some ⟨ib, io, none⟩) t.compiled.1.length c4, .bool lines] 35) = w5 at *
  generalize w4.heap.size = b5 at *
  clear hb hown hal HCP hc q0 q1 hR
  have q0 := HL5.out.1.1.c9
  have q1 := HL5.out.1.2.three9
  obtain ⟨⟨l, g⟩, hr⟩ : ∃ r, r = parsesR t s i0 lines := ⟨_, rfl⟩
  have hpp := PParses_any w5 t [.int .i64 p.op, .int .u64 p.set.a, .int .u64 p.set.b, .int .u64 p.set.c, .int .u64 p.set.d, .int .i64 p.lo, .int .i64 p.hi, .int .i64 p.gr, .slice ad m c] s i0 lines HL5.out.2.2.1 (by have := HSZ.out; omega) (by omega) HL5.out.2.2.2
  rw [← hr] at hpp
  have HPP := hid hpp
  have hll := parsesR_len (t := t) (s := s) (at_ := i0) (lines := lines)
  rw [← hr] at hll
  have HLL := hid hll
  have HR := hid hr
  clear hpp hr hll
  by_cases hg : g = 0
  case neg =>
    have hgb : (g != 0) = true := by simpa using hg
    clear hg
    go_wp2_with fail
    refine HPP.out.mono ?_
    rintro e w6 ⟨a6, c6, rfl, hb, hps⟩
    dsimp only at hps ⊢
    have HL6 := hid (HL5.out.later hb)
    have hrow := HPR.out.2.below hb HPR.out.2.lt
    have q5 := hrow.cell 0
    have q6 := hrow.cell 1
    have hz5 := hrow.lt
    have HVA := hid (Valid_any w6 _ _ t.compiled.1 lines (HPR.out.1.below hb) HRR.out)
    clear hb hps q0 q1 hrow HPP
    go_wp2_with fail
    refine HVA.out.mono ?_
    rintro e w7 ⟨rfl, hb⟩
    have HL7 := hid (HL6.out.later hb)
    clear hb
    go_wp2_with fail
    refine (HAW.out _ HL7.out).mono ?_
    rintro e w99 ⟨rfl, hb⟩
    have HB := hid hb
    clear hb
    go_wp2_with fail
    go_ret
    exact ⟨rfl, HB.out⟩
  subst hg
  go_wp2_with fail
  refine HPP.out.mono ?_
  rintro e w6 ⟨a6, c6, rfl, hb, hps⟩
  dsimp only at hps ⊢
  have HL6 := hid (HL5.out.later hb)
  have hrow := HPR.out.2.below hb HPR.out.2.lt
  have q5 := hrow.cell 0
  have q6 := hrow.cell 1
  have hz5 := hrow.lt
  have HVA := hid (Valid_any w6 _ _ t.compiled.1 lines (HPR.out.1.below hb) HRR.out)
  have HPS := hid (⟨hps, hrow, InsAt.of_own (HPR.out.1.below hb)⟩ : _ ∧ _ ∧ _)
  clear hb hps q0 q1 hrow HPP HPR
  go_wp2_with fail
  refine HVA.out.mono ?_
  rintro e w7 ⟨rfl, hb⟩
  have HL7 := hid (HL6.out.later hb)
  have HPS7 := hid (⟨HPS.out.1.below hb, HPS.out.2.1.below hb HPS.out.2.1.lt, HPS.out.2.2.below hb (Nat.le_refl _)⟩ : PsQ _ w7 (.slice a6 l.length c6) l ∧ Row w7 b5 _ _ ∧ InsAt w7 (some ⟨ib, io, none⟩) t.compiled.1)
  clear hb HVA HPS q5 q6 hz5
  have q0 := HL7.out.1.1.c9
  have q1 := HL7.out.1.2.three9
  have q5 := HPS7.out.2.1.cell 0
  have q6 := HPS7.out.2.1.cell 1
  have hz5 := HPS7.out.2.1.lt
  have hnl := Re.compiled_max t
  have hpos := HRR.out.1.1
  obtain ⟨mm, hmm⟩ : ∃ mm : Sim, mm = ⟨t.compiled.1, lines, s.data.toList⟩ := ⟨_, rfl⟩
  have hmL : mm.L = t.compiled.1 := by rw [hmm]
  have hml : mm.lines = lines := by rw [hmm]
  have hms : mm.s = s.data.toList := by rw [hmm]
  have hRm : rightAll mm.L := by rw [hmL]; exact HRR.out
  have hwm : ∀ k (h : k < mm.L.length), mm.L[k].set.wf := by
    intro k h
    have := Re.compiled_wf HC0.out HWF.out k (by rw [← hmL]; exact h)
    simp only [hmL]
    exact this
  have hpl : parses s.data.toList lines t i0 (unsetAll t.groups) = some l := by
    have h1 := parsesR_some (s := s) (i := i0) (lines := lines) (Re.compiled_zero HC0.out).1 hi0 (by rw [← HR.out])
    rw [← HR.out] at h1
    exact h1
  have HLAW : Hid (∀ d nl, i0 + d ≤ s.size → (∀ x, x ∈ nl ↔ mm.R i0 d x) → some6L mm nl = decide (i0 + d ∈ l.map Prod.fst)) := fun d nl h1 h2 => by
    rw [hmm] at h2 ⊢
    exact agrees_law HC0.out hi0 h1 hpl h2
  have hin7 : RcIn w7 mm (some ⟨ib, io, none⟩) w7.heap.size (.slice none 0 0) [] := ⟨by rw [hmL]; exact HPS7.out.2.2, fun b o h => by
    rcases HPS7.out.2.2 with h0 | ⟨b', o', h1, h2, -⟩
    · rw [h0] at hpos; simp at hpos
    · rw [h1] at h
      injection h with h
      injection h with h
      omega, Nat.le_refl _, OwnN9.nil _ _, List.nodup_nil, fun x h => by cases h⟩
  have hcall := reach_any mm ib io c4 s i0 hms hi0 (by omega) hRm (mm.L.length + 1) w7 w7.heap.size (.slice none 0 0) [] 0 (by omega) hin7 (by rw [hmL]; omega)
  rw [hmL, hml] at hcall
  have HCALL := hid hcall
  have HM := hid (⟨hmL, hml, hms, hRm, hwm⟩ : _ ∧ _ ∧ _ ∧ _ ∧ _)
  clear hmL hml hms hRm hwm hpl hin7 hcall hmm
  go_wp2_with fail
  refine HCALL.out.mono ?_
  rintro e w8 ⟨nl0, na0, nc0, rfl, ho8, hr8, hb8, hg8⟩
  have hbl8 : Below w7.heap.size w7 w8 := hb8.below (Nat.le_refl _) (fun g hg => by simp [own, Value.ownBlock] at hg)
  have HL8 := hid (HL7.out.later hbl8)
  have HPS8 := hid (⟨HPS7.out.1.below hbl8, HPS7.out.2.1.below hbl8 HPS7.out.2.1.lt, HPS7.out.2.2.below hbl8 (Nat.le_refl _)⟩ : PsQ _ w8 (.slice a6 l.length c6) l ∧ Row w8 b5 _ _ ∧ InsAt w8 (some ⟨ib, io, none⟩) t.compiled.1)
  have HNL : Hid (nl0.length = nl0.length ∧ IntQ w8 (.slice na0 nl0.length nc0) nl0 ∧ (∀ x, x ∈ nl0 ↔ mm.R i0 0 x) ∧ nl0.Nodup ∧ ∀ x, x ∈ nl0 → x < mm.L.length) := ⟨rfl, ho8.q fun h => absurd hr8.self (by rw [h]; simp), fun x => hr8.all x, hr8.nd, hr8.lt⟩
  clear hb8 hg8 ho8 hr8 hbl8 HCALL HL7 HPS7 q0 q1 q5 q6 hz5
  have q0 := HL8.out.1.1.c9
  have q1 := HL8.out.1.2.three9
  go_wp2_with fail
  go_loopw [9, 10] (fun nv ev wr => ∃ (d : Nat) (nl : List Nat) (na : Option Addr) (nn nc : Nat), nv = .slice na nn nc ∧ ev = .int .i64 ((i0 : Int) + (d : Int)) ∧ i0 + d ≤ s.size + 1 ∧ Hid (LAg w t [.int .i64 p.op, .int .u64 p.set.a, .int .u64 p.set.b, .int .u64 p.set.c, .int .u64 p.set.d, .int .i64 p.lo, .int .i64 p.hi, .int .i64 p.gr, .slice ad m c] [.string s, .int .i64 (i0 : Int), .bool lines] wr ∧ PsQ (w5.heap.size ≤ ·) wr (.slice a6 l.length c6) l ∧ Row wr b5 [.slice (some ⟨ib, io, none⟩) t.compiled.1.length c4, .bool lines] 35 ∧ InsAt wr (some ⟨ib, io, none⟩) t.compiled.1) ∧ Hid (i0 + d ≤ s.size → nn = nl.length ∧ IntQ wr (.slice na nn nc) nl ∧ (∀ x, x ∈ nl ↔ mm.R i0 (d) x) ∧ nl.Nodup ∧ ∀ x, x ∈ nl → x < mm.L.length)) (fun _ ev _ => s.size + 1 - (intOf ev).toNat)
  case atStart => exact ⟨0, nl0, na0, nl0.length, nc0, rfl, by simp, by omega, ⟨HL8.out, HPS8.out⟩, fun _ => ⟨rfl, HNL.out.2⟩⟩
  case round =>
    obtain ⟨d, nl, na, nn, nc, rfl, rfl, hd, HX, HN⟩ := hrel
    clear q0 q1
    have q0 := HX.out.1.1.1.c9
    have q1 := HX.out.1.1.2.three9
    have q5 := HX.out.2.2.1.cell 0
    have q6 := HX.out.2.2.1.cell 1
    have hz5 := HX.out.2.2.1.lt
    by_cases hle : i0 + d ≤ s.size
    · obtain ⟨hnn, hiq, hxr, hnd, hlt4⟩ := HN.out hle
      subst hnn
      have hnl4 : nl.length ≤ 4096 := by
        have h1 := List.Nodup.length_le_of_subset hnd (fun x hx => List.mem_range.2 (hlt4 x hx) : nl ⊆ List.range mm.L.length)
        rw [List.length_range, HM.out.1] at h1
        omega
      have hma := matched_any wr mm (some ⟨ib, io, none⟩) c4 (.slice na nl.length nc) nl ⟨by rw [HM.out.1]; exact HX.out.2.2.2, hiq, hlt4, by rw [HM.out.1]; omega⟩ hnl4
      rw [HM.out.1, HM.out.2.1, HLAW.out d nl hle hxr] at hma
      have hen : ∀ x : World, PsQ (w5.heap.size ≤ ·) x (.slice a6 l.length c6) l → Calls Tryd.prog 11 #[.slice a6 l.length c6, .int .i64 ((i0 : Int) + (d : Int))] x fun e w' => e = .returned (.bool (decide (i0 + d ∈ l.map Prod.fst))) ∧ w' = x := fun x hx => by
        have h1 := ends10_any x _ _ l (i0 + d) hx (Nat.le_trans HLL.out (by decide))
        rwa [show ((i0 + d : Nat) : Int) = (i0 : Int) + (d : Int) by omega] at h1
      generalize decide (i0 + d ∈ l.map Prod.fst) = bv at hma hen
      have HMA := hid hma
      have HEN := hid hen
      have HNN := hid (⟨hiq, hxr, hnd, hlt4⟩ : _ ∧ _ ∧ _ ∧ _)
      have hleI : (i0 : Int) + (d : Int) ≤ s.size := by omega
      clear hma hen hiq hxr hnd hlt4 HN
      go_wp2_with fail
      refine HMA.out.mono ?_
      rintro e w9 ⟨rfl, hb⟩
      have HX9 := hid (⟨HX.out.1.later hb, HX.out.2.1.below hb, HX.out.2.2.1.below hb HX.out.2.2.1.lt, HX.out.2.2.2.below hb (Nat.le_refl _)⟩ : (LAg w t [.int .i64 p.op, .int .u64 p.set.a, .int .u64 p.set.b, .int .u64 p.set.c, .int .u64 p.set.d, .int .i64 p.lo, .int .i64 p.hi, .int .i64 p.gr, .slice ad m c] [.string s, .int .i64 (i0 : Int), .bool lines] w9 ∧ PsQ (w5.heap.size ≤ ·) w9 (.slice a6 l.length c6) l ∧ Row w9 b5 [.slice (some ⟨ib, io, none⟩) t.compiled.1.length c4, .bool lines] 35 ∧ InsAt w9 (some ⟨ib, io, none⟩) t.compiled.1))
      have HIQ := hid (HNN.out.1.below hb)
      clear hb HMA HX q0 q1 q5 q6 hz5
      have q0 := HX9.out.1.1.1.c9
      have q1 := HX9.out.1.1.2.three9
      have q5 := HX9.out.2.2.1.cell 0
      have q6 := HX9.out.2.2.1.cell 1
      have hz5 := HX9.out.2.2.1.lt
      go_wp2_with fail
      refine (HEN.out w9 HX9.out.2.1).mono ?_
      rintro e w10 ⟨rfl, hw10⟩
      subst hw10
      have hbv : (bv != bv) = false := by simp
      by_cases hlt : i0 + d < s.size
      · have hltI : (i0 : Int) + (d : Int) < s.size := by omega
        have haf := after_any mm ib io c4 s (i0 + d) HM.out.2.2.1 hlt (by omega) HM.out.2.2.2.1 HM.out.2.2.2.2 w10 (.slice na nl.length nc) nl ⟨by rw [HM.out.1]; exact HX9.out.2.2.2, HIQ.out, HNN.out.2.2.2, by rw [HM.out.1]; omega⟩ hnl4
        rw [HM.out.1, HM.out.2.1, show ((i0 + d : Nat) : Int) = (i0 : Int) + (d : Int) by omega] at haf
        have HAF := hid haf
        clear haf
        go_wp2_with fail
        refine HAF.out.mono ?_
        rintro e w11 ⟨l2, a2, c2, rfl, hq2, hb2, hf2⟩
        have HX11 := hid (⟨HX9.out.1.later hb2, HX9.out.2.1.below hb2, HX9.out.2.2.1.below hb2 HX9.out.2.2.1.lt, HX9.out.2.2.2.below hb2 (Nat.le_refl _)⟩ : (LAg w t [.int .i64 p.op, .int .u64 p.set.a, .int .u64 p.set.b, .int .u64 p.set.c, .int .u64 p.set.d, .int .i64 p.lo, .int .i64 p.hi, .int .i64 p.gr, .slice ad m c] [.string s, .int .i64 (i0 : Int), .bool lines] w11 ∧ PsQ (w5.heap.size ≤ ·) w11 (.slice a6 l.length c6) l ∧ Row w11 b5 [.slice (some ⟨ib, io, none⟩) t.compiled.1.length c4, .bool lines] 35 ∧ InsAt w11 (some ⟨ib, io, none⟩) t.compiled.1))
        have HN11 : Hid (i0 + (d + 1) ≤ s.size → l2.length = l2.length ∧ IntQ w11 (.slice a2 l2.length c2) l2 ∧ (∀ x, x ∈ l2 ↔ mm.R i0 ((d + 1)) x) ∧ l2.Nodup ∧ ∀ x, x ∈ l2 → x < mm.L.length) := fun _ => ⟨rfl, hq2, fun x => (hf2.iff x).trans ⟨fun h => Sim.Reach.mono (fun z hz => by obtain ⟨j, h1, h2, h3⟩ := hz; exact ⟨j, (HNN.out.2.1 j).1 h1, h2, h3⟩) h, fun h => Sim.Reach.mono (fun z hz => by obtain ⟨j, h1, h2, h3⟩ := hz; exact ⟨j, (HNN.out.2.1 j).2 h1, h2, h3⟩) h⟩, hf2.nd, hf2.lt⟩
        clear hq2 hb2 hf2 HAF HX9 HIQ HNN
        go_wp2_with fail
        refine ⟨⟨d + 1, l2, a2, l2.length, c2, rfl, by go_num, by omega, HX11.out, fun h => ⟨rfl, (HN11.out h).2⟩⟩, ?_⟩
        simp [intOf]; omega
      · have hltI : ¬ (i0 : Int) + (d : Int) < s.size := by omega
        have HN11 : Hid (i0 + (d + 1) ≤ s.size → nl.length = nl.length ∧ IntQ w10 (.slice na nl.length nc) nl ∧ (∀ x, x ∈ nl ↔ mm.R i0 ((d + 1)) x) ∧ nl.Nodup ∧ ∀ x, x ∈ nl → x < mm.L.length) := fun h => by omega
        clear HIQ HNN
        go_wp2_with fail
        refine ⟨⟨d + 1, nl, na, nl.length, nc, rfl, by go_num, by omega, HX9.out, fun h => ⟨rfl, (HN11.out h).2⟩⟩, ?_⟩
        simp [intOf]; omega
    · have hleI : ¬ (i0 : Int) + (d : Int) ≤ s.size := by omega
      have HL9 := hid HX.out.1
      clear HN
      go_wp2_with fail
      refine (HAW.out _ HL9.out).mono ?_
      rintro e w99 ⟨rfl, hb⟩
      have HB := hid hb
      clear hb
      go_wp2_with fail
      go_ret
      exact ⟨rfl, HB.out⟩
end Go.Proofs.YthnpbopnpdlmnaaDoor
