/- Reback: alternatives. -/
import Derived.Test.YtnnocekencaadaaCatN
namespace Go.Proofs.Ytnnocekencaadaa
open Go.RowKit
attribute [local go_sem] gives givesUpon
variable {C : Ctx}

-- def TK := [.int .i64 p.op, .int .u64 p.set.a, .int .u64 p.set.b, .int .u64 p.set.c, .int .u64 p.set.d, .int .i64 p.lo, .int .i64 p.hi, .int .i64 p.gr, .slice ta xs.length tc, .int .i64 i, .int .i64 k, .slice sa sp.length sc, .func (.func fid) #[] cap]
-- def W1 := (w.alloc (.cells #[.int .i64 p.op, .int .u64 p.set.a, .int .u64 p.set.b, .int .u64 p.set.c, .int .u64 p.set.d, .int .i64 p.lo, .int .i64 p.hi, .int .i64 p.gr, .slice ta xs.length tc, .int .i64 i, .int .i64 k, .slice sa sp.length sc, .func (.func fid) #[] cap] 74))
theorem Re.oks_get {N : Nat} : ∀ {xs : List Re}, Re.oks N xs → ∀ (d : Nat) (h : d < xs.length), xs[d].ok N
  | t :: ts, h, 0, hd => by rw [Re.oks] at h; exact h.1
  | t :: ts, h, d + 1, hd => by rw [Re.oks] at h; exact Re.oks_get h.2 d (by simpa using hd)
/-- What the loop over alternatives keeps: d of them have failed. -/
def AltL (C : Ctx) (w : World) (n : Nat) (xs : List Re) (i k : Nat) (sp : Spans) (K : Kont) (TKL : List Value) (sv nv : Value) (d : Nat) (wr : World) : Prop :=
  Row wr w.heap.size TKL 74 ∧ EndsL C w n (Ev C.str C.lines (.alt xs i k) sp K n) (fun n' d => Ev C.str C.lines (.alt (xs.drop d) i k) sp K n') sp K sv nv d false wr
set_option maxRecDepth 100000 in
set_option maxHeartbeats 8000000 in
theorem arm4 (n : Nat) (HT : ∀ m, m ≤ n → TryC C m) : ArmC C n 4 38 (fun t => #[.pointer (some ⟨C.M, 0, none⟩), t]) := by
  intro w p xs ta tc i k sp K sa sc fid cap h ho hin hok hik hks
  rw [Re.In] at hin
  obtain ⟨ad, cp, e, hwf, hcl, hcm, -, hall⟩ := hin
  simp only [Pay.cells, List.cons.injEq, Value.slice.injEq] at e
  obtain ⟨-, -, -, -, -, -, -, -, ⟨rfl, -, rfl⟩, -⟩ := e
  rw [Re.ok] at hok
  have HGO : Hid (∀ (e : Ending) (w' : World), Good C (Ev C.str C.lines (.alt xs i k) sp K n) w e w' → Good C (Ev C.str C.lines (.try (.mk p xs) i k) sp K (n + 1)) w e w') := fun e w' hg => hg.mono fun o m he => .tryAlt ho he
  have hml : xs.length ≤ maxLen := by omega
  unfold maxLen at hml
  have HP := hid h
  have HTT := hid HT
  have HAL := hid hall
  have HOK := hid hok.2.2.2.2
  have R0 : Row (w.alloc (.cells #[.int .i64 p.op, .int .u64 p.set.a, .int .u64 p.set.b, .int .u64 p.set.c, .int .u64 p.set.d, .int .i64 p.lo, .int .i64 p.hi, .int .i64 p.gr, .slice ta xs.length tc, .int .i64 i, .int .i64 k, .slice sa sp.length sc, .func (.func fid) #[] cap] 74)) w.heap.size [.int .i64 p.op, .int .u64 p.set.a, .int .u64 p.set.b, .int .u64 p.set.c, .int .u64 p.set.d, .int .i64 p.lo, .int .i64 p.hi, .int .i64 p.gr, .slice ta xs.length tc, .int .i64 i, .int .i64 k, .slice sa sp.length sc, .func (.func fid) #[] cap] 74 := Row.new rfl
  have HB := hid ((Below.refl w.heap.size w).alloc (Nat.le_refl _) (.cells #[.int .i64 p.op, .int .u64 p.set.a, .int .u64 p.set.b, .int .u64 p.set.c, .int .u64 p.set.d, .int .i64 p.lo, .int .i64 p.hi, .int .i64 p.gr, .slice ta xs.length tc, .int .i64 i, .int .i64 k, .slice sa sp.length sc, .func (.func fid) #[] cap] 74))
  have q0 := R0.c13
  have HR0 := hid R0
  clear h hok hall ho R0 HT
  go_enter Try.func38, Try.ntmps38
  go_wp2_with fail
  go_loopw [11] (fun v wr => ∃ d : Nat, v = .int .i64 d ∧ d ≤ xs.length ∧ Hid (AltL C w n xs i k sp K [.int .i64 p.op, .int .u64 p.set.a, .int .u64 p.set.b, .int .u64 p.set.c, .int .u64 p.set.d, .int .i64 p.lo, .int .i64 p.hi, .int .i64 p.gr, .slice ta xs.length tc, .int .i64 i, .int .i64 k, .slice sa sp.length sc, .func (.func fid) #[] cap] (.slice sa sp.length sc) (.func (.func fid) #[] cap) d wr)) (fun v wr => xs.length - (intOf v).toNat)
  case atStart =>
    exact ⟨0, rfl, Nat.zero_le _, HR0.out, But.of_below HB.out, fun _ => ⟨n, Nat.le_refl _, HP.out.later HB.out, fun o m he => he⟩, fun e => (by cases e)⟩
  case round =>
    obtain ⟨d, rfl, hd, HL⟩ := hrel
    obtain ⟨r0, hbut, hpr, -⟩ := HL.out
    obtain ⟨m', hm', hpre, hrest⟩ := hpr rfl
    have HPR := hid hpre
    have HRS := hid hrest
    have HBU := hid hbut
    have HRR := hid r0
    have p0 := r0.c13
    have hwl := r0.lt
    by_cases hlt : d < xs.length
    · obtain ⟨b, o, p', ad', n', cap', rfl, HC, HI0, hbb⟩ := HAL.out.kid hpre.st.below d hlt
      have qc := hpre.st.c
      clear hbut hpr hpre hrest r0 q0 HL
      have hltI : (d : Int) < xs.length := by omega
      go_wp2_with (first | (with_reducible (refine wpList_load_agg rfl 28 _ rfl b (o + (d * 9)) rfl _ _ HC.out Try.underlying28 rfl (size_re9 _ _ _ _ _ _ _ _ _) ?_)))
      have hal := (Below.refl wr.heap.size wr).alloc (Nat.le_refl _) (.cells #[.int .i64 p'.op, .int .u64 p'.set.a, .int .u64 p'.set.b, .int .u64 p'.set.c, .int .u64 p'.set.d, .int .i64 p'.lo, .int .i64 p'.hi, .int .i64 p'.gr, .slice ad' n' cap'] 28)
      have hdr : xs.drop d = xs[d] :: xs.drop (d + 1) := List.drop_eq_getElem_cons hlt
      have HDR := hid hdr
      refine (TryC.lit (HTT.out m' hm') _ xs[d] p' ad' n' cap' i k sp K _ _ HI0.out (Re.oks_get HOK.out d hlt) hik hks ((HPR.out.later hal).mono (Nat.le_succ _))).mono ?_
      rintro e w' ⟨o', m, h1, rfl, h3, h4, h5⟩
      have HE := hid h1
      have HST := hid h3
      have HFD := hid h5
      have HBW : Hid (But C.S wr w') := (But.of_below hal).trans h4
      have hr4 := HRR.out.but HBW.out (HPR.out.st.nS HRR.out (by decide) (by decide))
      have HR4 := hid hr4
      clear h1 h3 h4 h5 hal hdr qc p0
      have p1 := hr4.c13
      have hsz := hr4.lt
      clear hr4
      cases o' with
      | found l =>
        simp only [Out.isFound]
        go_wp2_with fail
        go_ret
        exact HGO.out _ _ ⟨.found l, m, HRS.out _ _ (by rw [HDR.out]; exact .altHit HE.out (by intro h; cases h)), rfl, HST.out, HBU.out.trans HBW.out, HFD.out⟩
      | fail =>
        simp only [Out.isFound]
        have qc := HST.out.c
        simp only [Out.isOver] at qc
        go_wp2_with fail
        refine ⟨⟨d + 1, by go_num, by omega, HR4.out, HBU.out.trans HBW.out, fun _ => ⟨m, ?_, ?_, fun o2 m2 he => ?_⟩, fun e => (by cases e)⟩, ?_⟩
        · have := (Ev.left C.str C.lines HE.out).1; omega
        · exact ⟨HST.out, HPR.out.span.but HBW.out, HPR.out.ok, HPR.out.k.but HPR.out.st HBW.out, HPR.out.kok.mono (by have := (Ev.left C.str C.lines HE.out).1; omega)⟩
        · exact HRS.out _ _ (by rw [HDR.out]; exact .altMiss HE.out he)
        · simp [intOf]; omega
      | over =>
        simp only [Out.isFound]
        have qc := HST.out.c
        simp only [Out.isOver] at qc
        go_wp2_with fail
        go_ret
        exact HGO.out _ _ ⟨.over, m, HRS.out _ _ (by rw [HDR.out]; exact .altHit HE.out (by intro h; cases h)), rfl, HST.out, HBU.out.trans HBW.out, HFD.out⟩
    · obtain rfl : d = xs.length := by omega
      clear hbut hpr hpre hrest r0 q0 HL
      go_wp2_with fail
      go_ret
      exact HGO.out _ _ ⟨.fail, m', HRS.out _ _ (by rw [List.drop_length]; exact .altNone), rfl, HPR.out.st, HBU.out, fun l hl => (by cases hl)⟩
end Go.Proofs.Ytnnocekencaadaa
