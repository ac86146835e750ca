/- The reference of the parses: repetitions, and trees of every kind. -/
import Derived.Test.YthnpbopnpdlmnaaX36
import Derived.Test.YthnpbopnpdlmnaaX13
import Derived.Test.YthnpbopnpdlmnaaX37
import Derived.Test.YthnpbopnpdlmnaaX31
import Derived.Test.YthnpbopnpdlmnaaX32
import Derived.Test.YthnpbopnpdlmnaaX33
namespace Go.Proofs.Ythnpbopnpdlmnaa
open Go.RowKit
attribute [local go_sem] gives givesUpon

theorem parses_rep {s : List UInt8} {lines : Bool} {p : Pay} {xs : List Re} {i : Nat} {sp : Spans} (hop : p.op = 5) : parses s lines (.mk p xs) i sp = (visit p (withinAll xs) (firstP s lines xs) (most + 1) (0, i, sp) ([], [])).bind fun st => fin s.length st.2 := by
  rw [parses]
  simp only [hop]
  rfl
set_option maxRecDepth 100000 in
set_option maxHeartbeats 16000000 in
theorem rrep9_any (wb : World) (N : Nat) (hN : N ≤ 9) (s : ByteArray) (hs : s.size ≤ 1000000) (lines : Bool) (p : Pay) (x0 : Re) (bb o cap : Nat) (hop : p.op = 5) (HX0 : RPar wb N s lines x0) (hIn : (Re.mk p [x0]).In wb [.int .i64 p.op, .int .u64 p.set.a, .int .u64 p.set.b, .int .u64 p.set.c, .int .u64 p.set.d, .int .i64 p.lo, .int .i64 p.hi, .int .i64 p.gr, .slice (some ⟨bb, o, none⟩) 1 cap]) (hok : (Re.mk p [x0]).ok N) (hsz : (Re.mk p [x0]).size ≤ 20) (hlo : 0 ≤ p.lo ∧ p.lo ≤ 1000) (hhi : -1 ≤ p.hi ∧ p.hi ≤ 1000)
    (w : World) (sa : Option Addr) (sc : Nat) (sp : Spans) (i : Nat) (hbw : Below wb.heap.size wb w) (hsp : SpQ w (.slice sa sp.length sc) sp) (hspo : SpOk N s.size sp) (hi : i ≤ s.size) :
    Calls Try.prog 56 #[.agg #[.string s, .bool lines], .agg #[.int .i64 p.op, .int .u64 p.set.a, .int .u64 p.set.b, .int .u64 p.set.c, .int .u64 p.set.d, .int .i64 p.lo, .int .i64 p.hi, .int .i64 p.gr, .slice (some ⟨bb, o, none⟩) 1 cap], .int .i64 i, .slice sa sp.length sc] w (RetP w (parses s.data.toList lines (.mk p [x0]) i sp)) := by
  have hT : Two w s lines [.int .i64 p.op, .int .u64 p.set.a, .int .u64 p.set.b, .int .u64 p.set.c, .int .u64 p.set.d, .int .i64 p.lo, .int .i64 p.hi, .int .i64 p.gr, .slice (some ⟨bb, o, none⟩) 1 cap] ((w.alloc (.cells #[.string s, .bool lines] 75)).alloc (.cells #[.int .i64 p.op, .int .u64 p.set.a, .int .u64 p.set.b, .int .u64 p.set.c, .int .u64 p.set.d, .int .i64 p.lo, .int .i64 p.hi, .int .i64 p.gr, .slice (some ⟨bb, o, none⟩) 1 cap] 28)) := ⟨(Row.new rfl).alloc _, Row.new (by simp), ((Below.refl _ _).alloc (Nat.le_refl _) _).alloc (by simp) _⟩
  have hb3 : Below (((w.alloc (.cells #[.string s, .bool lines] 75)).alloc (.cells #[.int .i64 p.op, .int .u64 p.set.a, .int .u64 p.set.b, .int .u64 p.set.c, .int .u64 p.set.d, .int .i64 p.lo, .int .i64 p.hi, .int .i64 p.gr, .slice (some ⟨bb, o, none⟩) 1 cap] 28))).heap.size ((w.alloc (.cells #[.string s, .bool lines] 75)).alloc (.cells #[.int .i64 p.op, .int .u64 p.set.a, .int .u64 p.set.b, .int .u64 p.set.c, .int .u64 p.set.d, .int .i64 p.lo, .int .i64 p.hi, .int .i64 p.gr, .slice (some ⟨bb, o, none⟩) 1 cap] 28)) (((w.alloc (.cells #[.string s, .bool lines] 75)).alloc (.cells #[.int .i64 p.op, .int .u64 p.set.a, .int .u64 p.set.b, .int .u64 p.set.c, .int .u64 p.set.d, .int .i64 p.lo, .int .i64 p.hi, .int .i64 p.gr, .slice (some ⟨bb, o, none⟩) 1 cap] 28)).alloc (.cells #[.string s, .bool lines, .int .i64 p.op, .int .u64 p.set.a, .int .u64 p.set.b, .int .u64 p.set.c, .int .u64 p.set.d, .int .i64 p.lo, .int .i64 p.hi, .int .i64 p.gr, .slice (some ⟨bb, o, none⟩) 1 cap, .slice none 0 0, .slice none 0 0] 127)) := (Below.refl _ _).alloc (Nat.le_refl _) _
  have hT3 := hT.later hb3
  have HT := hid hT3
  have q0 := hT3.1.two9
  have q1 := hT3.2.1.c9
  have hsl : s.data.toList.length = s.size := by rw [Array.length_toList]; rfl
  have hPA : parses s.data.toList lines (.mk p [x0]) i sp = (visit p (withinAll [x0]) (firstP s.data.toList lines [x0]) (most + 1) (0, i, sp) ([], [])).bind fun st => fin s.size st.2 := by rw [parses_rep hop, hsl]
  have HPA := hid hPA
  have hlp : LpAt s lines (.int .i64 p.op) (.int .u64 p.set.a) (.int .u64 p.set.b) (.int .u64 p.set.c) (.int .u64 p.set.d) (.int .i64 p.lo) (.int .i64 p.hi) (.int .i64 p.gr) (.slice (some ⟨bb, o, none⟩) 1 cap) w.heap.size (w.heap.size + 2) (.slice none 0 0) (.slice none 0 0) [] [] (((w.alloc (.cells #[.string s, .bool lines] 75)).alloc (.cells #[.int .i64 p.op, .int .u64 p.set.a, .int .u64 p.set.b, .int .u64 p.set.c, .int .u64 p.set.d, .int .i64 p.lo, .int .i64 p.hi, .int .i64 p.gr, .slice (some ⟨bb, o, none⟩) 1 cap] 28)).alloc (.cells #[.string s, .bool lines, .int .i64 p.op, .int .u64 p.set.a, .int .u64 p.set.b, .int .u64 p.set.c, .int .u64 p.set.d, .int .i64 p.lo, .int .i64 p.hi, .int .i64 p.gr, .slice (some ⟨bb, o, none⟩) 1 cap, .slice none 0 0, .slice none 0 0] 127)) := ⟨Row.new (by simp), OwnS.nil _ _, OwnP.nil _ _, by omega⟩
  have hv := rvisit_any wb N hN s hs lines p x0 bb o cap hop HX0 hIn hok hsz hlo hhi w.heap.size (w.heap.size + 2) hbw.size (most + 1) (((w.alloc (.cells #[.string s, .bool lines] 75)).alloc (.cells #[.int .i64 p.op, .int .u64 p.set.a, .int .u64 p.set.b, .int .u64 p.set.c, .int .u64 p.set.d, .int .i64 p.lo, .int .i64 p.hi, .int .i64 p.gr, .slice (some ⟨bb, o, none⟩) 1 cap] 28)).alloc (.cells #[.string s, .bool lines, .int .i64 p.op, .int .u64 p.set.a, .int .u64 p.set.b, .int .u64 p.set.c, .int .u64 p.set.d, .int .i64 p.lo, .int .i64 p.hi, .int .i64 p.gr, .slice (some ⟨bb, o, none⟩) 1 cap, .slice none 0 0, .slice none 0 0] 127)) (.slice none 0 0) (.slice none 0 0) [] [] 0 i sa sc sp hlp (hbw.trans (hT3.2.2.mono hbw.size)) ⟨(fun _ h => by cases h), by simp, by simp, (fun _ h => by cases h)⟩ (hsp.below hT3.2.2) hspo hi (by omega) (by unfold most; simp)
  obtain ⟨r, hr⟩ : ∃ r, r = visit p (withinAll [x0]) (firstP s.data.toList lines [x0]) (most + 1) (0, i, sp) ([], []) := ⟨_, rfl⟩
  rw [← hr, show ((0 : Nat) : Int) = 0 from rfl] at hv
  rw [← hr] at hPA
  have HV := hid hv
  have HPA := hid hPA
  clear hT hT3 hb3 hsl hlp hv hPA hr hsp hspo hbw HX0 hIn hok hop
  go_enter Try.func56, Try.ntmps56
  go_wp2_with fail
  refine HV.out.mono ?_
  rintro e y ⟨sv, ov, rfl, hfr, hst⟩
  have hbt : But [w.heap.size + 2] (((w.alloc (.cells #[.string s, .bool lines] 75)).alloc (.cells #[.int .i64 p.op, .int .u64 p.set.a, .int .u64 p.set.b, .int .u64 p.set.c, .int .u64 p.set.d, .int .i64 p.lo, .int .i64 p.hi, .int .i64 p.gr, .slice (some ⟨bb, o, none⟩) 1 cap] 28)).alloc (.cells #[.string s, .bool lines, .int .i64 p.op, .int .u64 p.set.a, .int .u64 p.set.b, .int .u64 p.set.c, .int .u64 p.set.d, .int .i64 p.lo, .int .i64 p.hi, .int .i64 p.gr, .slice (some ⟨bb, o, none⟩) 1 cap, .slice none 0 0, .slice none 0 0] 127)) y := hfr.but.mono fun k hk => .inl (by simpa [blk, Value.ownBlock] using hk)
  have HBT := hid hbt
  have HTY : Hid (Two w s lines [.int .i64 p.op, .int .u64 p.set.a, .int .u64 p.set.b, .int .u64 p.set.c, .int .u64 p.set.d, .int .i64 p.lo, .int .i64 p.hi, .int .i64 p.gr, .slice (some ⟨bb, o, none⟩) 1 cap] y) := ⟨HT.out.1.but hbt (by simp), HT.out.2.1.but hbt (by simp), HT.out.2.2.trans (hbt.below (by have := HT.out.2.2.size; simp; omega) (fun k hk => by simp at hk; omega))⟩
  have q2 := HTY.out.1.two9
  have q3 := HTY.out.2.1.c9
  clear q0 q1
  cases r with
  | none =>
    have HN : Hid (parses s.data.toList lines (.mk p [x0]) i sp = none) := by show _ = _; rw [HPA.out]; rfl
    simp only [Option.isSome_none]
    go_wp2_with fail
    go_ret2
    exact ⟨none, 0, 0, by rw [HN.out]; rfl, HTY.out.2.2, fun l hl => (by rw [HN.out] at hl; cases hl), fun _ => ⟨rfl, rfl, rfl⟩⟩
  | some st =>
    have HN : Hid (fin s.size st.2 = parses s.data.toList lines (.mk p [x0]) i sp) := by show _ = _; rw [HPA.out]; rfl
    have HST := hid (hst st rfl)
    obtain ⟨a1, c1, rfl⟩ : ∃ a1 c1, ov = .slice a1 (nub st.2).length c1 := HST.out.1.2.2.1.form
    have hnl : (nub st.2).length ≤ 100000 := by
      have h4 := nub_le st.2
      have h5 := HST.out.2.1.2.1
      have h6 := HST.out.2.1.2.2.1
      omega
    obtain ⟨m1, hm1⟩ : ∃ m1, m1 = (nub st.2).length := ⟨_, rfl⟩
    have HM1 := hid hm1
    have hlc := HST.out.1.c
    rw [← hm1] at hlc
    have q4 := hlc.2.2.2
    have HD := hid (fun (x : World) (hx : Below y.heap.size y x) => rdone_any x _ _ (nub st.2) st.2 s lines rfl (HST.out.1.2.2.1.below hx).psq hnl hs)
    rw [← hm1] at HD
    have HC := hid (fun (x : World) (hx : Grow y.drew x) => (⟨(HTY.out.later (grow_below hx)).1.two9, ((grow_below hx).cell (p := ⟨w.heap.size + 2, 12, none⟩) (Nat.lt_of_lt_of_le (by simp) HBT.out.size)).trans q4⟩ : _ ∧ _))
    clear hnl hm1 hlc hbt hfr hst
    simp only [Option.isSome_some]
    go_wp2_with fail
    refine wp_region_two 5 10 rfl (Grow) (by kernel_rfl) (by kernel_rfl) (Grow.refl) (fun _ _ _ => Grow.trans) ?_
    simp only [fill, dstOf, Act.put, List.take_succ_cons, List.take_zero, List.getElem?_toArray, List.getElem?_cons_zero, List.getElem?_cons_succ, Option.bind_some, List.setIfInBounds_toArray, List.set_cons_zero, List.set_cons_succ]
    refine Plan.det 1 rfl (Grow.refl) ?_
    apply Exists.intro
    refine ⟨fun vs x hR hF K hK => ?_, ?_⟩
    · have hc := HC.out x hR; clear hF
      go_simp
      exact hK _ _ (Grow.refl _) rfl
    refine Plan.det 2 rfl (Grow.refl) ?_
    apply Exists.intro
    refine ⟨fun vs x hR hF K hK => ?_, ?_⟩
    · clear hF
      go_simp
      exact hK _ _ (Grow.refl _) rfl
    refine Plan.det 3 rfl (Grow.refl) ?_
    apply Exists.intro
    refine ⟨fun vs x hR hF K hK => ?_, ?_⟩
    · have f1 := hF 0 _ _ rfl rfl; clear hF
      go_simp
      exact hK _ _ (Grow.refl _) rfl
    refine Plan.det 4 rfl (Grow.refl) ?_
    apply Exists.intro
    refine ⟨fun vs x hR hF K hK => ?_, ?_⟩
    · have f2 := hF 0 _ _ rfl rfl; clear hF
      go_simp
      exact hK _ _ (Grow.refl _) rfl
    refine Plan.det 5 rfl (Grow.refl) ?_
    apply Exists.intro
    refine ⟨fun vs x hR hF K hK => ?_, ?_⟩
    · have f3 := hF 0 _ _ rfl rfl; have hc := HC.out x hR; clear hF
      go_simp
      exact hK _ _ (Grow.refl _) rfl
    refine PlanEnd (by simp) (fun vs x hR hF => ?_)
    have f0 := hF 4 _ _ rfl; have f1 := hF 3 _ _ rfl; have f2 := hF 2 _ _ rfl; have f3 := hF 1 _ _ rfl; have f4 := hF 0 _ _ rfl
    clear hF
    simp only [f0, f1, f2, f3, f4]
    clear f0 f1 f2 f3 f4
    intro oo hoo KQ hK
    obtain rfl := Option.some.inj hoo
    clear hoo
    have HBX := hid (grow_below hR)
    clear hR
    go_simp
    refine (HD.out _ HBX.out).mono ?_
    rintro e w' hr
    obtain ⟨a2, n2, c2, b2, rfl, HRR⟩ := hr.on (HTY.out.2.2.trans (HBX.out.mono HTY.out.2.2.size)) HN.out
    clear hr
    refine ⟨_, rfl, hK _ _ ?_⟩
    clear hK
    unfold AfterC
    simp only [fill, dstOf, Act.put, List.getElem?_toArray, List.getElem?_cons_zero, List.getElem?_cons_succ, Option.bind_some, List.setIfInBounds_toArray, List.set_cons_zero, List.set_cons_succ, List.drop_succ_cons, List.drop_zero]
    refine Plan.det 7 rfl (fun _ => rfl) ?_
    apply Exists.intro
    refine ⟨fun vs x hR hF K hK => ?_, ?_⟩
    · have f5 := hF 0 _ _ rfl rfl; clear hF
      go_simp
      exact hK _ _ rfl rfl
    refine Plan.det 8 rfl (fun _ => rfl) ?_
    apply Exists.intro
    refine ⟨fun vs x hR hF K hK => ?_, ?_⟩
    · have f5 := hF 1 _ _ rfl rfl; clear hF
      go_simp
      exact hK _ _ rfl rfl
    refine Plan.det 9 rfl (fun _ => rfl) ?_
    apply Exists.intro
    refine ⟨fun vs x hR hF K hK => ?_, ?_⟩
    · have f5 := hF 2 _ _ rfl rfl; have f6 := hF 1 _ _ rfl rfl; have f7 := hF 0 _ _ rfl rfl; clear hF
      go_simp
      exact hK _ _ rfl rfl
    refine Plan.det 10 rfl (fun _ => rfl) ?_
    apply Exists.intro
    refine ⟨fun vs x hR hF K hK => ?_, ?_⟩
    · have f5 := hF 3 _ _ rfl rfl; have f6 := hF 2 _ _ rfl rfl; have f7 := hF 1 _ _ rfl rfl; have f8 := hF 0 _ _ rfl rfl; clear hF
      go_simp
      exact hK _ _ rfl rfl
    refine Plan.nil (fun vs x hR2 hF => ?_)
    have f5 := hF 4 _ _ rfl; have f6 := hF 3 _ _ rfl; have f7 := hF 2 _ _ rfl; have f8 := hF 1 _ _ rfl; have f9 := hF 0 _ _ rfl
    clear hF
    simp only [f5, f6, f7, f8, f9]
    clear f5 f6 f7 f8 f9
    subst hR2
    simp only [List.drop_succ_cons, List.drop_nil]
    go_wp2_with fail
    go_ret2
    exact HRR.out
set_option maxRecDepth 100000 in
set_option maxHeartbeats 16000000 in
theorem rpar3 (wb : World) (N : Nat) (hN : N ≤ 9) (s : ByteArray) (hs : s.size ≤ 1000000) (lines : Bool) (p : Pay) (xs : List Re) (hop : p.op = 3) (HXS : ∀ x, x ∈ xs → RPar wb N s lines x) : RPar wb N s lines (.mk p xs) := by
  intro w cs sa sc sp i hIn hok hsz hbw hsp hspo hi
  rw [Re.In] at hIn
  obtain ⟨ad, cap, rfl, hwf, -, -, -, hall⟩ := hIn
  simp only [Pay.cells]
  have hT : Two w s lines [.int .i64 p.op, .int .u64 p.set.a, .int .u64 p.set.b, .int .u64 p.set.c, .int .u64 p.set.d, .int .i64 p.lo, .int .i64 p.hi, .int .i64 p.gr, .slice ad xs.length cap] ((w.alloc (.cells #[.string s, .bool lines] 75)).alloc (.cells #[.int .i64 p.op, .int .u64 p.set.a, .int .u64 p.set.b, .int .u64 p.set.c, .int .u64 p.set.d, .int .i64 p.lo, .int .i64 p.hi, .int .i64 p.gr, .slice ad xs.length cap] 28)) := ⟨(Row.new rfl).alloc _, Row.new (by simp), ((Below.refl _ _).alloc (Nat.le_refl _) _).alloc (by simp) _⟩
  have HT := hid hT
  have q0 := hT.1.two9
  have q1 := hT.2.1.c9
  have hoks : Re.oks N xs := by rw [Re.ok] at hok; exact hok.2.2.2.2
  have hszz : Re.sizes xs ≤ 20 := by rw [Re.size_mk] at hsz; omega
  have hsl : s.data.toList.length = s.size := by rw [Array.length_toList]; rfl
  have HO := hid hop
  have hc := rcat9_any wb N hN s hs lines xs HXS ((w.alloc (.cells #[.string s, .bool lines] 75)).alloc (.cells #[.int .i64 p.op, .int .u64 p.set.a, .int .u64 p.set.b, .int .u64 p.set.c, .int .u64 p.set.d, .int .i64 p.lo, .int .i64 p.hi, .int .i64 p.gr, .slice ad xs.length cap] 28)) ad cap sa sc sp i hall hoks hszz (hbw.trans (hT.2.2.mono hbw.size)) (hsp.below hT.2.2) hspo hi
  have HPA : Hid (((catP s.data.toList lines xs [(i, sp)]).bind (fin s.size)) = parses s.data.toList lines (.mk p xs) i sp) := by show _ = _; rw [parses, hsl]; simp only [hop]; rfl
  have HCC := hid hc
  clear hT hok hsz hall hwf hc hsp hspo hbw hop hoks hszz hsl
  have e1 : (p.op == 1) = false := by rw [HO.out]; decide
  have e2 : (p.op == 2) = false := by rw [HO.out]; decide
  have e7 : (p.op == 7) = false := by rw [HO.out]; decide
  have e8 : (p.op == 8) = false := by rw [HO.out]; decide
  have e9 : (p.op == 9) = false := by rw [HO.out]; decide
  have e6 : (p.op == 6) = false := by rw [HO.out]; decide
  have e3 : (p.op == 3) = true := by rw [HO.out]; decide
  have e4 : (p.op == 4) = false := by rw [HO.out]; decide
  go_enter Try.func31, Try.ntmps31
  go_wp2_with fail
  refine HCC.out.mono ?_
  rintro e w2 hr
  obtain ⟨a2, n2, c2, b2, rfl, HRR⟩ := hr.on HT.out.2.2 HPA.out
  clear hr
  go_wp2_with fail
  go_ret2
  exact HRR.out
set_option maxRecDepth 100000 in
set_option maxHeartbeats 16000000 in
theorem rpar4 (wb : World) (N : Nat) (hN : N ≤ 9) (s : ByteArray) (hs : s.size ≤ 1000000) (lines : Bool) (p : Pay) (xs : List Re) (hop : p.op = 4) (HXS : ∀ x, x ∈ xs → RPar wb N s lines x) : RPar wb N s lines (.mk p xs) := by
  intro w cs sa sc sp i hIn hok hsz hbw hsp hspo hi
  rw [Re.In] at hIn
  obtain ⟨ad, cap, rfl, hwf, -, -, -, hall⟩ := hIn
  simp only [Pay.cells]
  have hT : Two w s lines [.int .i64 p.op, .int .u64 p.set.a, .int .u64 p.set.b, .int .u64 p.set.c, .int .u64 p.set.d, .int .i64 p.lo, .int .i64 p.hi, .int .i64 p.gr, .slice ad xs.length cap] ((w.alloc (.cells #[.string s, .bool lines] 75)).alloc (.cells #[.int .i64 p.op, .int .u64 p.set.a, .int .u64 p.set.b, .int .u64 p.set.c, .int .u64 p.set.d, .int .i64 p.lo, .int .i64 p.hi, .int .i64 p.gr, .slice ad xs.length cap] 28)) := ⟨(Row.new rfl).alloc _, Row.new (by simp), ((Below.refl _ _).alloc (Nat.le_refl _) _).alloc (by simp) _⟩
  have HT := hid hT
  have q0 := hT.1.two9
  have q1 := hT.2.1.c9
  have hoks : Re.oks N xs := by rw [Re.ok] at hok; exact hok.2.2.2.2
  have hszz : Re.sizes xs ≤ 20 := by rw [Re.size_mk] at hsz; omega
  have hsl : s.data.toList.length = s.size := by rw [Array.length_toList]; rfl
  have HO := hid hop
  have hc := ralt_any wb N hN s hs lines xs HXS ((w.alloc (.cells #[.string s, .bool lines] 75)).alloc (.cells #[.int .i64 p.op, .int .u64 p.set.a, .int .u64 p.set.b, .int .u64 p.set.c, .int .u64 p.set.d, .int .i64 p.lo, .int .i64 p.hi, .int .i64 p.gr, .slice ad xs.length cap] 28)) ad cap sa sc sp i hall hoks hszz (hbw.trans (hT.2.2.mono hbw.size)) (hsp.below hT.2.2) hspo hi
  have HPA : Hid (((altP s.data.toList lines xs i sp).bind (fin s.size)) = parses s.data.toList lines (.mk p xs) i sp) := by show _ = _; rw [parses, hsl]; simp only [hop]; rfl
  have HCC := hid hc
  clear hT hok hsz hall hwf hc hsp hspo hbw hop hoks hszz hsl
  have e1 : (p.op == 1) = false := by rw [HO.out]; decide
  have e2 : (p.op == 2) = false := by rw [HO.out]; decide
  have e7 : (p.op == 7) = false := by rw [HO.out]; decide
  have e8 : (p.op == 8) = false := by rw [HO.out]; decide
  have e9 : (p.op == 9) = false := by rw [HO.out]; decide
  have e6 : (p.op == 6) = false := by rw [HO.out]; decide
  have e3 : (p.op == 3) = false := by rw [HO.out]; decide
  have e4 : (p.op == 4) = true := by rw [HO.out]; decide
  go_enter Try.func31, Try.ntmps31
  go_wp2_with fail
  refine HCC.out.mono ?_
  rintro e w2 hr
  obtain ⟨a2, n2, c2, b2, rfl, HRR⟩ := hr.on HT.out.2.2 HPA.out
  clear hr
  go_wp2_with fail
  go_ret2
  exact HRR.out
set_option maxRecDepth 100000 in
set_option maxHeartbeats 16000000 in
theorem rpar5 (wb : World) (N : Nat) (hN : N ≤ 9) (s : ByteArray) (hs : s.size ≤ 1000000) (lines : Bool) (p : Pay) (x0 : Re) (hop : p.op = 5) (hlo : 0 ≤ p.lo ∧ p.lo ≤ 1000) (hhi : -1 ≤ p.hi ∧ p.hi ≤ 1000) (HX0 : RPar wb N s lines x0) : RPar wb N s lines (.mk p [x0]) := by
  intro w cs sa sc sp i hIn hok hsz hbw hsp hspo hi
  have hIn2 := hIn
  rw [Re.In] at hIn
  obtain ⟨ad, cap, rfl, hwf, -, -, -, hall⟩ := hIn
  obtain ⟨bb, o, cs0, hq1, hq2, hq3⟩ := hall.get 0 x0 (by simp)
  subst hq1
  simp only [Pay.cells] at hIn2 ⊢
  have hT : Two w s lines [.int .i64 p.op, .int .u64 p.set.a, .int .u64 p.set.b, .int .u64 p.set.c, .int .u64 p.set.d, .int .i64 p.lo, .int .i64 p.hi, .int .i64 p.gr, .slice (some ⟨bb, o, none⟩) 1 cap] ((w.alloc (.cells #[.string s, .bool lines] 75)).alloc (.cells #[.int .i64 p.op, .int .u64 p.set.a, .int .u64 p.set.b, .int .u64 p.set.c, .int .u64 p.set.d, .int .i64 p.lo, .int .i64 p.hi, .int .i64 p.gr, .slice (some ⟨bb, o, none⟩) 1 cap] 28)) := ⟨(Row.new rfl).alloc _, Row.new (by simp), ((Below.refl _ _).alloc (Nat.le_refl _) _).alloc (by simp) _⟩
  have HT := hid hT
  have q0 := hT.1.two9
  have q1 := hT.2.1.c9
  have HO := hid hop
  have hc := rrep9_any wb N hN s hs lines p x0 bb o cap hop HX0 hIn2 hok hsz hlo hhi ((w.alloc (.cells #[.string s, .bool lines] 75)).alloc (.cells #[.int .i64 p.op, .int .u64 p.set.a, .int .u64 p.set.b, .int .u64 p.set.c, .int .u64 p.set.d, .int .i64 p.lo, .int .i64 p.hi, .int .i64 p.gr, .slice (some ⟨bb, o, none⟩) 1 cap] 28)) sa sc sp i (hbw.trans (hT.2.2.mono hbw.size)) (hsp.below hT.2.2) hspo hi
  have HCC := hid hc
  clear hT hok hsz hall hwf hc hsp hspo hbw hop hIn2 hq2 hq3 HX0
  have e1 : (p.op == 1) = false := by rw [HO.out]; decide
  have e2 : (p.op == 2) = false := by rw [HO.out]; decide
  have e7 : (p.op == 7) = false := by rw [HO.out]; decide
  have e8 : (p.op == 8) = false := by rw [HO.out]; decide
  have e9 : (p.op == 9) = false := by rw [HO.out]; decide
  have e6 : (p.op == 6) = false := by rw [HO.out]; decide
  have e3 : (p.op == 3) = false := by rw [HO.out]; decide
  have e4 : (p.op == 4) = false := by rw [HO.out]; decide
  have e5 : (p.op == 5) = true := by rw [HO.out]; decide
  go_enter Try.func31, Try.ntmps31
  go_wp2_with fail
  refine HCC.out.mono ?_
  rintro e w2 hr
  obtain ⟨a2, n2, c2, b2, rfl, HRR⟩ := hr.on HT.out.2.2 rfl
  clear hr
  go_wp2_with fail
  go_ret2
  exact HRR.out
def Pay.repOk (p : Pay) : Prop := p.op = 5 → (0 ≤ p.lo ∧ p.lo ≤ 1000) ∧ (-1 ≤ p.hi ∧ p.hi ≤ 1000)
mutual
def Re.reps : Re → Prop
  | .mk p xs => p.repOk ∧ Re.repsAll xs
def Re.repsAll : List Re → Prop
  | [] => True
  | x :: xs => x.reps ∧ Re.repsAll xs
end
mutual
theorem Re.reps_ranged : ∀ (t : Re) (b n : Nat), t.ranged b = some n → t.reps
  | .mk p xs, b, n, h => by
    rw [Re.ranged] at h
    split at h
    · cases h
    · rename_i h5
      rw [Re.reps]
      have hp : p.repOk := by
        intro ho
        have h6 : p.badRep = false := by
          cases hb : p.badRep with
          | false => rfl
          | true => exact absurd ⟨ho, hb⟩ h5
        simp only [Pay.badRep, Bool.or_eq_false_iff, Bool.and_eq_false_iff, decide_eq_false_iff_not] at h6
        omega
      split at h
      · split at h
        · exact ⟨hp, Re.repsAll_ranged xs _ n h⟩
        · cases h
      · exact ⟨hp, Re.repsAll_ranged xs _ n h⟩
theorem Re.repsAll_ranged : ∀ (xs : List Re) (b n : Nat), Re.rangeds xs b = some n → Re.repsAll xs
  | [], b, n, h => by rw [Re.repsAll]; trivial
  | t :: ts, b, n, h => by
    rw [Re.rangeds] at h
    rw [Re.repsAll]
    cases hr : t.ranged b with
    | none => rw [hr] at h; cases h
    | some b2 =>
      rw [hr] at h
      exact ⟨Re.reps_ranged t b b2 hr, Re.repsAll_ranged ts b2 n h⟩
end
theorem Re.reps_err {t : Re} (h : t.err = 0) : t.reps := by
  unfold Re.err at h
  cases h1 : t.typed with
  | false => simp [h1] at h
  | true =>
    cases h2 : t.ranged 0 with
    | none => simp [h1, h2] at h
    | some n => exact Re.reps_ranged t 0 n h2
mutual
theorem rpar_any (wb : World) (N : Nat) (hN : N ≤ 9) (s : ByteArray) (hs : s.size ≤ 1000000) (lines : Bool) : ∀ t : Re, t.ok N → t.reps → RPar wb N s lines t
  | .mk p xs, hok, hr => by
    have hok2 := hok
    rw [Re.ok] at hok2
    rw [Re.reps] at hr
    have hx := rpar_all wb N hN s hs lines xs hok2.2.2.2.2 hr.2
    have hop := hok2.1.1
    have h9 : p.op = 1 ∨ p.op = 2 ∨ p.op = 3 ∨ p.op = 4 ∨ p.op = 5 ∨ p.op = 6 ∨ p.op = 7 ∨ p.op = 8 ∨ p.op = 9 := by omega
    rcases h9 with h | h | h | h | h | h | h | h | h
    · exact rpar1 wb N hN s hs lines p xs h
    · exact rpar2 wb N hN s hs lines p xs h
    · exact rpar3 wb N hN s hs lines p xs h hx
    · exact rpar4 wb N hN s hs lines p xs h hx
    · obtain ⟨x, rfl⟩ := hok2.2.2.1 (.inl h)
      exact rpar5 wb N hN s hs lines p x h (hr.1 h).1 (hr.1 h).2 (hx x (by simp))
    · obtain ⟨x, rfl⟩ := hok2.2.2.1 (.inr h)
      exact rpar6 wb N hN s hs lines p x h (hx x (by simp))
    · exact rpar7 wb N hN s hs lines p xs h
    · exact rpar8 wb N hN s hs lines p xs h
    · exact rpar9 wb N hN s hs lines p xs h
theorem rpar_all (wb : World) (N : Nat) (hN : N ≤ 9) (s : ByteArray) (hs : s.size ≤ 1000000) (lines : Bool) : ∀ xs : List Re, Re.oks N xs → Re.repsAll xs → ∀ x, x ∈ xs → RPar wb N s lines x
  | [], _, _, x, hx => by cases hx
  | t :: ts, hok, hr, x, hx => by
    rw [Re.oks] at hok
    rw [Re.repsAll] at hr
    rcases List.mem_cons.1 hx with h | h
    · rw [h]; exact rpar_any wb N hN s hs lines t hok.1 hr.1
    · exact rpar_all wb N hN s hs lines ts hok.2 hr.2 x h
end
end Go.Proofs.Ythnpbopnpdlmnaa
