/- The laws of layer 9: RematchLongest. -/
import Derived.Test.YtkinnfejgpnddaaDoorK19
import Derived.Test.YtkinnfejgpnddaaDoorK20
import Derived.Deep.QuietTactic
import Derived.BigQuiet
namespace Go.Proofs.YtkinnfejgpnddaaDoor
open Go.RowKit
attribute [local go_sem] gives givesUpon

theorem atR_err {r : List Parse × Int} {at_ : Int} (h : (atR r at_).2.2 ≠ 0) : (atR r at_).1 = [] ∧ (atR r at_).2.1 = false := by
  obtain ⟨l, y⟩ := r
  cases l with
  | nil => exact ⟨rfl, rfl⟩
  | cons q l => exact absurd rfl h
theorem leftR_err {t : Re} {s : ByteArray} {lines : Bool} : ∀ d i : Nat, (leftR t s lines d i).2.2 ≠ 0 → (leftR t s lines d i).1 = [] ∧ (leftR t s lines d i).2.1 = false
  | 0, i, h => ⟨rfl, rfl⟩
  | d + 1, i, h => by
    rw [leftR] at h ⊢
    split at h
    · rename_i hc
      rw [if_pos hc]
      exact atR_err h
    · rename_i hc
      rw [if_neg hc]
      exact leftR_err d (i + 1) h
theorem leftmostR_err {t : Re} {s : ByteArray} {at_ : Int} {lines : Bool} (h : (leftmostR t s at_ lines).2.2 ≠ 0) : (leftmostR t s at_ lines).1 = [] ∧ (leftmostR t s at_ lines).2.1 = false := by
  unfold leftmostR at *
  split at h
  · rename_i hc
    rw [if_pos hc]
    exact ⟨rfl, rfl⟩
  · rename_i hc
    rw [if_neg hc]
    exact leftR_err _ _ h
/-- Where Leftmost is at offset i, and has found nothing yet. -/
def LeftAt (t : Re) (s : ByteArray) (lines : Bool) (i : Nat) (sp : Spans) (ok : Bool) : Prop := leftR t s lines (s.size + 1 - i) i = (sp, ok, 0)
theorem LeftAt.begin {t : Re} {s : ByteArray} {at_ : Int} {lines : Bool} {sp : Spans} {ok : Bool} (h : leftmostR t s at_ lines = (sp, ok, 0)) : ∃ f : Nat, at_ = f ∧ f ≤ s.size ∧ t.err = 0 ∧ LeftAt t s lines f sp ok := by
  unfold leftmostR at h
  split at h
  · rename_i hc
    injection h with h1 h2
    injection h2 with h2 h3
    exact absurd h3 hc
  · rename_i hc
    obtain ⟨h1, h2, h3⟩ := chk_zero (Classical.byContradiction hc)
    refine ⟨at_.toNat, by omega, by omega, h1, h⟩
theorem LeftAt.last {t : Re} {s : ByteArray} {lines : Bool} {i : Nat} {sp : Spans} {ok : Bool} (h : LeftAt t s lines i sp ok) (hi : s.size < i) : ok = false := by
  unfold LeftAt at h
  rw [show s.size + 1 - i = 0 by omega, leftR] at h
  injection h with h1 h2
  injection h2 with h2 h3
  exact h2.symm
theorem LeftAt.next {t : Re} {s : ByteArray} {lines : Bool} {i : Nat} {sp : Spans} {ok : Bool} {y : Int} (h : LeftAt t s lines i sp ok) (hi : i ≤ s.size) (hr : parsesR t s i lines = ([], y)) : y = 0 ∧ LeftAt t s lines (i + 1) sp ok := by
  unfold LeftAt at h ⊢
  rw [show s.size + 1 - i = (s.size + 1 - (i + 1)) + 1 by omega, leftR, hr] at h
  unfold atR at h
  dsimp only at h
  split at h
  · rename_i hc
    injection h with h1 h2
    injection h2 with h2 h3
    rcases hc with hc | hc
    · cases hc
    · exact absurd h3 hc
  · rename_i hc
    exact ⟨Classical.byContradiction fun hy => hc (.inr hy), h⟩
theorem LeftAt.found {t : Re} {s : ByteArray} {lines : Bool} {i : Nat} {sp : Spans} {ok : Bool} {q : Parse} {l : List Parse} {y : Int} (h : LeftAt t s lines i sp ok) (hi : i ≤ s.size) (hr : parsesR t s i lines = (q :: l, y)) : sp = ((i : Int), (q.1 : Int)) :: q.2 ∧ ok = true ∧ y = 0 := by
  unfold LeftAt at h
  have hy := ((parsesR_ok (t := t) (s := s) (at_ := i) (lines := lines)).2 (by rw [hr]; simp)).2
  rw [hr] at hy
  rw [show s.size + 1 - i = (s.size + 1 - (i + 1)) + 1 by omega, leftR, hr] at h
  unfold atR at h
  dsimp only at h
  rw [if_pos (.inl rfl)] at h
  injection h with h1 h2
  injection h2 with h2 h3
  exact ⟨h1.symm, h2.symm, hy⟩
set_option maxRecDepth 100000 in
set_option maxHeartbeats 16000000 in
theorem LawLongest9_any (w : World) (t : Re) (cs : List Value) (s : ByteArray) (at_ : Int) (lines : Bool) (hin : t.In w cs) (ht : Tabs9 w) :
    Calls Tryd.prog 5 #[.agg cs.toArray, .agg #[.string s, .int .i64 at_, .bool lines]] w (LawPost w) := by
  obtain ⟨p, ad, m, c, rfl⟩ := Re.cells_shape hin
  have hb2 : Below w.heap.size w ((w.alloc (.cells #[.int .i64 p.op, .int .u64 p.set.a, .int .u64 p.set.b, .int .u64 p.set.c, .int .u64 p.set.d, .int .i64 p.lo, .int .i64 p.hi, .int .i64 p.gr, .slice ad m c] 28)).alloc (.cells #[.string s, .int .i64 at_, .bool lines] 30)) := ((Below.refl _ _).alloc (Nat.le_refl _) _).alloc (by simp) _
  have hL : LawAt w t [.int .i64 p.op, .int .u64 p.set.a, .int .u64 p.set.b, .int .u64 p.set.c, .int .u64 p.set.d, .int .i64 p.lo, .int .i64 p.hi, .int .i64 p.gr, .slice ad m c] [.string s, .int .i64 at_, .bool lines] ((w.alloc (.cells #[.int .i64 p.op, .int .u64 p.set.a, .int .u64 p.set.b, .int .u64 p.set.c, .int .u64 p.set.d, .int .i64 p.lo, .int .i64 p.hi, .int .i64 p.gr, .slice ad m c] 28)).alloc (.cells #[.string s, .int .i64 at_, .bool lines] 30)) := ⟨(Row.new rfl).alloc _, Row.new (by simp), hb2, hin.below hb2, ht.on hb2⟩
  have HL := hid hL
  have HFEW := hid (few9_any ((w.alloc (.cells #[.int .i64 p.op, .int .u64 p.set.a, .int .u64 p.set.b, .int .u64 p.set.c, .int .u64 p.set.d, .int .i64 p.lo, .int .i64 p.hi, .int .i64 p.gr, .slice ad m c] 28)).alloc (.cells #[.string s, .int .i64 at_, .bool lines] 30)) t [.int .i64 p.op, .int .u64 p.set.a, .int .u64 p.set.b, .int .u64 p.set.c, .int .u64 p.set.d, .int .i64 p.lo, .int .i64 p.hi, .int .i64 p.gr, .slice ad m c] s hL.2.2.2.1)
  have q0 := hL.1.c9
  have q1 := hL.2.1.three9
  clear hb2 hL hin ht
  go_enter Tryd.func5, Tryd.ntmps5
  go_wp2_with fail
  refine HFEW.out.mono ?_
  rintro e w1 ⟨b, rfl, hbt, hb⟩
  have HL1 := hid (HL.out.later hb)
  have HBT := hid hbt
  clear hb hbt q0 q1 HL HFEW
  have q0 := HL1.out.1.c9
  have q1 := HL1.out.2.1.three9
  cases b with
  | false =>
    have HAW := hid (awake9_any w1 HL1.out.2.2.2.2)
    go_wp2_with fail
    refine HAW.out.mono ?_
    rintro e w2 ⟨rfl, hb⟩
    have HB := hid (HL1.out.2.2.1.trans (hb.mono HL1.out.2.2.1.size))
    clear hb q0 q1
    go_wp2_with fail
    go_ret
    exact ⟨rfl, HB.out⟩
  | true =>
    have hsz := (HBT.out (by simp)).1
    have hs := (HBT.out (by simp)).2
    have HSZ := hid (⟨hsz, hs⟩ : _ ∧ _)
    obtain ⟨⟨sp2, ok2, x2⟩, hr2⟩ : ∃ r, r = leftmostR t s at_ lines := ⟨_, rfl⟩
    have hln2 := leftmostR_len (t := t) (s := s) (at_ := at_) (lines := lines)
    rw [← hr2] at hln2
    have HLN := hid hln2
    have HRR2 := hid hr2
    have hp3 := PLeft_any w1 t [.int .i64 p.op, .int .u64 p.set.a, .int .u64 p.set.b, .int .u64 p.set.c, .int .u64 p.set.d, .int .i64 p.lo, .int .i64 p.hi, .int .i64 p.gr, .slice ad m c] s at_ lines HL1.out.2.2.2.1 (by omega) (by omega) HL1.out.2.2.2.2
    rw [← hr2] at hp3
    have HP3 := hid hp3
    clear hp3 hr2 hln2 hsz
    go_wp2_with fail
    refine HP3.out.mono ?_
    rintro e w2 ⟨a2, c2, rfl, hb, hs2⟩
    dsimp only at hs2 ⊢
    have hal2 : Below w2.heap.size w2 (w2.alloc (.cells #[.slice a2 sp2.length c2] 41)) := (Below.refl _ _).alloc (Nat.le_refl _) _
    have HM2 := hid (⟨(HL1.out.later hb).later hal2, Row.new (w := w2) (cs := [.slice a2 sp2.length c2]) (T := 41) rfl, hs2.below hal2⟩ : LawAt w t [.int .i64 p.op, .int .u64 p.set.a, .int .u64 p.set.b, .int .u64 p.set.c, .int .u64 p.set.d, .int .i64 p.lo, .int .i64 p.hi, .int .i64 p.gr, .slice ad m c] [.string s, .int .i64 at_, .bool lines] (w2.alloc (.cells #[.slice a2 sp2.length c2] 41)) ∧ Row _ w2.heap.size _ _ ∧ SpQ _ _ _)
    clear hb hs2 q0 q1 HP3 hal2 HL1 HBT
    by_cases hx : x2 = 0
    · subst hx
      obtain ⟨f, rfl, hfs, he, hla⟩ := LeftAt.begin HRR2.out.symm
      have HLA := hid hla
      clear hla he
      go_upto_region 4 with fail
      generalize hw2 : w2.alloc (.cells #[.slice a2 sp2.length c2] 41) = w3 at *
      generalize hb5 : w2.heap.size = b5 at *
      have HW2 := hid hw2
      clear hw2 hb5
      have q0 := HM2.out.1.1.c9
      have q1 := HM2.out.1.2.1.three9
      have q2 := HM2.out.2.1.c1
      go_wp2_with fail
      go_loopw [8] (fun v wr => ∃ i : Nat, f ≤ i ∧ i ≤ s.size + 1 ∧ v = .int .i64 i ∧ Hid (Below w3.heap.size w3 wr ∧ LeftAt t s lines i sp2 ok2)) (fun v _ => s.size + 1 - (intOf v).toNat)
      case atStart => exact ⟨f, Nat.le_refl _, by omega, rfl, Below.refl _ _, HLA.out⟩
      case round =>
        obtain ⟨i, hfi, his, rfl, HX⟩ := hrel
        have HL4 := hid (⟨HM2.out.1.later HX.out.1, HM2.out.2.1.below HX.out.1 HM2.out.2.1.lt, HM2.out.2.2.below HX.out.1⟩ : LawAt w t [.int .i64 p.op, .int .u64 p.set.a, .int .u64 p.set.b, .int .u64 p.set.c, .int .u64 p.set.d, .int .i64 p.lo, .int .i64 p.hi, .int .i64 p.gr, .slice ad m c] [.string s, .int .i64 (f : Int), .bool lines] wr ∧ Row wr b5 [.slice a2 sp2.length c2] 41 ∧ SpQ wr (.slice a2 sp2.length c2) sp2)
        clear q0 q1 q2
        have q0 := HL4.out.1.1.c9
        have q1 := HL4.out.1.2.1.three9
        have q2 := HL4.out.2.1.c1
        by_cases hi : i ≤ s.size
        · have hiI : (i : Int) ≤ s.size := by omega
          obtain ⟨⟨l, y⟩, hr⟩ : ∃ r, r = parsesR t s i lines := ⟨_, rfl⟩
          have hpp := PParses_any wr t [.int .i64 p.op, .int .u64 p.set.a, .int .u64 p.set.b, .int .u64 p.set.c, .int .u64 p.set.d, .int .i64 p.lo, .int .i64 p.hi, .int .i64 p.gr, .slice ad m c] s i lines HL4.out.1.2.2.2.1 (by have := HSZ.out; omega) (by omega) HL4.out.1.2.2.2.2
          rw [← hr] at hpp
          have HPP := hid hpp
          have HRR := hid hr
          clear hpp hr
          go_wp2_with fail
          refine HPP.out.mono ?_
          rintro e w4 ⟨a4, c4, rfl, hb, hps⟩
          dsimp only at hps ⊢
          obtain ⟨n, hn⟩ : ∃ n, n = l.length := ⟨_, rfl⟩
          rw [← hn] at hps ⊢
          have HNL := hid hn
          clear hn
          have HB4 := hid (⟨hb, hps⟩ : _ ∧ _)
          have HL5 := hid (⟨HL4.out.1.later hb, HL4.out.2.1.below hb HL4.out.2.1.lt, HL4.out.2.2.below hb⟩ : LawAt w t [.int .i64 p.op, .int .u64 p.set.a, .int .u64 p.set.b, .int .u64 p.set.c, .int .u64 p.set.d, .int .i64 p.lo, .int .i64 p.hi, .int .i64 p.gr, .slice ad m c] [.string s, .int .i64 (f : Int), .bool lines] w4 ∧ Row w4 b5 [.slice a2 sp2.length c2] 41 ∧ SpQ w4 (.slice a2 sp2.length c2) sp2)
          clear hb hps HPP q0 q1 q2
          have q0 := HL5.out.1.1.c9
          have q1 := HL5.out.1.2.1.three9
          have q2 := HL5.out.2.1.c1
          have hat := PAt9_any w4 t [.int .i64 p.op, .int .u64 p.set.a, .int .u64 p.set.b, .int .u64 p.set.c, .int .u64 p.set.d, .int .i64 p.lo, .int .i64 p.hi, .int .i64 p.gr, .slice ad m c] s i lines HL5.out.1.2.2.2.1 (by have := HSZ.out; omega) (by omega) HL5.out.1.2.2.2.2
          rw [← HRR.out] at hat
          have HAT := hid hat
          clear hat
          cases l with
          | nil =>
            obtain ⟨rfl, hnext⟩ := HX.out.2.next hi HRR.out.symm
            obtain rfl : n = 0 := HNL.out
            have HNX := hid hnext
            clear hnext
            go_wp2_with fail
            refine HAT.out.mono ?_
            rintro e w5 ⟨a5, c5, rfl, hb, hs5⟩
            dsimp only [atR] at hs5 ⊢
            have HB5 : Hid (Below w3.heap.size w3 (w5.alloc (.cells #[.slice a5 ([] : Spans).length c5] 41))) := ((HX.out.1.trans (HB4.out.1.mono HX.out.1.size)).trans (hb.mono (HX.out.1.trans (HB4.out.1.mono HX.out.1.size)).size)).alloc (Nat.le_trans (HX.out.1.trans (HB4.out.1.mono HX.out.1.size)).size hb.size) _
            clear hb hs5
            go_wp2_with fail
            all_goals
              refine ⟨⟨i + 1, by omega, by omega, by go_num, HB5.out, HNX.out⟩, ?_⟩
              simp [intOf]
              omega
          | cons q l =>
            obtain ⟨hsp, rfl, rfl⟩ := HX.out.2.found hi HRR.out.symm
            obtain ⟨qe, qs⟩ := q
            dsimp only at hsp
            have HSP := hid hsp
            clear hsp
            have hne := (parsesR_neat (t := t) (s := s) (at_ := i) (lines := lines)).1
            rw [← HRR.out] at hne
            have HNE := hid hne
            clear hne
            go_wp2_with fail
            refine HAT.out.mono ?_
            rintro e w5 ⟨a5, c5, rfl, hb, hs5⟩
            dsimp only [atR] at hs5 ⊢
            have hn := HNL.out
            obtain ⟨m5, hm5⟩ : ∃ m, m = (((i : Int), (qe : Int)) :: qs).length := ⟨_, rfl⟩
            have hnp : 0 < n := by rw [hn]; simp
            have hmp : 0 < m5 := by rw [hm5]; simp
            have hnI : (0 : Int) < n := by omega
            have hn4 : n ≤ 4096 := by
              have := parsesR_len (t := t) (s := s) (at_ := i) (lines := lines)
              rw [← HRR.out] at this
              rw [hn]
              exact this
            have hmz : ((m5 : Int) == 0) = false := by simp; omega
            have hq9 : m5 ≤ 20 := by
              have := atR_len (t := t) (s := s) (at_ := i) (lines := lines)
              rw [← HRR.out] at this
              rw [hm5]
              exact this
            rw [← hm5]
            have hal : Below w5.heap.size w5 (w5.alloc (.cells #[.slice a5 m5 c5] 41)) := (Below.refl _ _).alloc (Nat.le_refl _) _
            rw [← hm5] at hs5
            have HM6 := hid (⟨HL5.out.1.later hb |>.later hal, (HL5.out.2.1.below hb HL5.out.2.1.lt).below hal (HL5.out.2.1.below hb HL5.out.2.1.lt).lt, (HL5.out.2.2.below hb).below hal, Row.new (w := w5) (cs := [.slice a5 m5 c5]) (T := 41) rfl, hs5.below hal, (HB4.out.2.below hb).below hal⟩ :
              LawAt w t [.int .i64 p.op, .int .u64 p.set.a, .int .u64 p.set.b, .int .u64 p.set.c, .int .u64 p.set.d, .int .i64 p.lo, .int .i64 p.hi, .int .i64 p.gr, .slice ad m c] [.string s, .int .i64 (f : Int), .bool lines] (w5.alloc (.cells #[.slice a5 m5 c5] 41)) ∧ Row _ b5 [.slice a2 sp2.length c2] 41 ∧ SpQ _ (.slice a2 sp2.length c2) sp2 ∧ Row _ w5.heap.size [.slice a5 m5 c5] 41 ∧ SpQ _ (.slice a5 m5 c5) (((i : Int), (qe : Int)) :: qs) ∧ PsQ _ _ (.slice a4 n c4) ((qe, qs) :: l))
            have HN := hid (⟨hn, hm5⟩ : _ ∧ _)
            clear hb hs5 hal q0 q1 q2 HAT HL5 HB4 hn hm5
            go_upto_region 11 with fail
            generalize hw6 : w5.alloc (.cells #[.slice a5 m5 c5] 41) = w6 at *
            generalize hb11 : w5.heap.size = b11 at *
            have HW6 := hid hw6
            clear hw6 hb11
            obtain ⟨a6, c6, e6, hsp0 | ⟨b6, more6, e7, hr6⟩⟩ := HM6.out.2.2.2.2.1
            · cases hsp0
            injection e6 with g1 g2 g3
            subst g1; subst g3; subst e7
            have HR6 := hid hr6
            clear hr6 g2
            have q0 := HM6.out.1.1.c9
            have q1 := HM6.out.1.2.1.three9
            have q2 := HM6.out.2.1.c1
            have q3 := HM6.out.2.2.2.1.c1
            go_wp2_with fail
            go_loopw [14] (fun v wx => ∃ k : Nat, k ≤ n ∧ v = .int .i64 k ∧ Hid (Below w6.heap.size w6 wx)) (fun v _ => n - (intOf v).toNat)
            case atStart => exact ⟨0, Nat.zero_le _, rfl, Below.refl _ _⟩
            case round =>
              obtain ⟨k, hk, rfl, HB⟩ := hrel
              have HR7 := hid (HR6.out.below HB.out HR6.out.lt)
              have HM7 := hid (⟨HM6.out.2.2.2.1.below HB.out HM6.out.2.2.2.1.lt, HM6.out.2.1.below HB.out HM6.out.2.1.lt⟩ : Row wr b11 [.slice (some ⟨b6, 0, none⟩) m5 c5] 41 ∧ Row wr b5 [.slice a2 sp2.length c2] 41)
              have q6 : (wr.cell? ⟨b6, 0, none⟩ = some (.int .i64 (i : Int)) ∧ wr.cell? ⟨b6, 1, none⟩ = some (.int .i64 (qe : Int))) := ⟨HR7.out.cell 0, HR7.out.cell 1⟩
              have q7 := HM7.out.1.c1
              have q8 := HM7.out.2.c1
              clear q0 q1 q2 q3
              by_cases hlt : k < n
              · have hltI : (k : Int) < (n : Int) := by omega
                have HPQ := hid (HM6.out.2.2.2.2.2.below HB.out)
                obtain ⟨b, cc, u1, u2, sa, sc, hq, ev, hb, -, -, p0, p1, -⟩ := HPQ.out.get (k := k) (by rw [← HN.out.1]; exact hlt)
                injection ev with e1 e2 e3
                subst e1; subst e3
                clear e2 p1
                have hue : u1 ≤ qe := by
                  cases k with
                  | zero => have := Option.some.inj hq; injection this with h1 h2; omega
                  | succ k =>
                    have hm := List.mem_of_getElem? (show l[k]? = some (u1, u2) by simpa using hq)
                    exact (List.pairwise_cons.1 HNE.out).1 _ hm
                have hueI : ¬ (qe : Int) < (u1 : Int) := by omega
                have hueB : decide ((qe : Int) < (u1 : Int)) = false := by simpa using hue
                clear hq
                go_wp2_with fail
                go_quiet (fail)
                have HBZ : Hid (Below w6.heap.size w6 (wr.drewN nq)) := HB.out.trans ((below_drewN (Below.refl _ _) nq).mono HB.out.size)
                generalize wr.drewN nq = z at HBZ ⊢
                go_wp2_with fail
                all_goals
                  refine ⟨⟨k + 1, hlt, by go_num, HBZ.out⟩, ?_⟩
                  simp [intOf]
                  omega
              · have hltI : ¬ (k : Int) < (n : Int) := by omega
                obtain ⟨b, cc, u1, u2, sa, sc, hq, ev, hb, -, -, p0, p1, -⟩ := (HM6.out.2.2.2.2.2.below HB.out).get (k := 0) (by simp)
                injection ev with e1 e2 e3
                subst e1; subst e3
                injection Option.some.inj hq with h1 h2
                subst h1
                rw [Nat.zero_mul] at p0
                have HC0 := hid (⟨p0, hb⟩ : _ ∧ _)
                clear e2 p1 hq h2 hb
                have hsp2 := HSP.out
                have HSPE := hid hsp2
                have HC := hid (fun (x : World) (hx : Grow wr.drew x) => (⟨(HM7.out.1.below (grow_below hx) HM7.out.1.lt).cell 0, (HM7.out.2.below (grow_below hx) HM7.out.2.lt).cell 0, ((grow_below hx).cell (p := ⟨b, 0, none⟩) HC0.out.2).trans HC0.out.1, (HR7.out.below (grow_below hx) HR7.out.lt).cell 1⟩ : _ ∧ _ ∧ _ ∧ _))
                have HAW := hid (fun (x : World) (hx : Grow wr.drew x) => awake9_any x ((HM6.out.1.later HB.out).later (grow_below hx)).2.2.2.2)
                have HSM : Hid (∀ x : World, Grow wr.drew x → Calls Tryd.prog 19 #[.agg #[.slice (some ⟨b6, 0, none⟩) m5 c5], .agg #[.slice a2 sp2.length c2]] x fun e w' => e = .returned (.bool true) ∧ Below x.heap.size x w') := fun x hx => by
                  have h := SameMatch9_any x (some ⟨b6, 0, none⟩) a2 c5 c2 (((i : Int), (qe : Int)) :: qs) sp2 (by rw [← HN.out.2]; exact (HM6.out.2.2.2.2.1.below HB.out).below (grow_below hx)) ((HM6.out.2.2.1.below HB.out).below (grow_below hx)) (by rw [← HN.out.2]; exact hq9) HLN.out
                  rw [← HN.out.2] at h
                  exact h.mono fun e w' h => ⟨by rw [h.1, decide_eq_true HSPE.out.symm], h.2⟩
                clear hsp2
                go_wp2_with fail
                refine wp_region_inv 22 (Grow) (by kernel_rfl) (by kernel_rfl) (Grow.refl) (fun _ _ _ => Grow.trans) ?_
                simp only [fill, dstOf, Act.put, List.take_succ_cons, List.take_zero, List.getElem?_toArray, List.getElem?_cons_zero, List.getElem?_cons_succ, Option.bind_some, List.setIfInBounds_toArray, List.set_cons_zero, List.set_cons_succ]
                refine Plan.det 1 rfl (Grow.refl) ?_
                apply Exists.intro
                refine ⟨fun vs x hR hF K hK => ?_, ?_⟩
                · clear hF
                  go_simp
                  exact hK _ _ (Grow.refl _) rfl
                refine Plan.det 2 rfl (Grow.refl) ?_
                apply Exists.intro
                refine ⟨fun vs x hR hF K hK => ?_, ?_⟩
                · have f0 := hF 0 _ _ rfl rfl; clear hF
                  go_simp
                  exact hK _ _ (Grow.refl _) rfl
                refine Plan.det 3 rfl (Grow.refl) ?_
                apply Exists.intro
                refine ⟨fun vs x hR hF K hK => ?_, ?_⟩
                · have f1 := hF 0 _ _ rfl rfl; have hc := HC.out x hR; clear hF
                  go_simp
                  exact hK _ _ (Grow.refl _) rfl
                refine Plan.det 4 rfl (Grow.refl) ?_
                apply Exists.intro
                refine ⟨fun vs x hR hF K hK => ?_, ?_⟩
                · have f1 := hF 1 _ _ rfl rfl; have hc := HC.out x hR; clear hF
                  go_simp
                  exact hK _ _ (Grow.refl _) rfl
                refine Plan.det 5 rfl (Grow.refl) ?_
                apply Exists.intro
                refine ⟨fun vs x hR hF K hK => ?_, ?_⟩
                · have f1 := hF 2 _ _ rfl rfl; have f2 := hF 1 _ _ rfl rfl; have f3 := hF 0 _ _ rfl rfl; clear hF
                  go_simp
                  refine (HSM.out x hR).mono ?_
                  rintro e x1 ⟨rfl, hbe⟩
                  exact ⟨_, rfl, hK _ _ hbe rfl⟩
                refine Plan.det 6 rfl (Grow.refl) ?_
                apply Exists.intro
                refine ⟨fun vs x hR hF K hK => ?_, ?_⟩
                · have f1 := hF 3 _ _ rfl rfl; have f4 := hF 0 _ _ rfl rfl; clear hF
                  go_simp
                  exact hK _ _ (Grow.refl _) rfl
                refine Plan.det 7 rfl (Grow.refl) ?_
                apply Exists.intro
                refine ⟨fun vs x hR hF K hK => ?_, ?_⟩
                · have f4 := hF 1 _ _ rfl rfl; have f5 := hF 0 _ _ rfl rfl; clear hF
                  go_simp
                  exact hK _ _ (Grow.refl _) rfl
                refine Plan.det 8 rfl (Grow.refl) ?_
                apply Exists.intro
                refine ⟨fun vs x hR hF K hK => ?_, ?_⟩
                · have f6 := hF 0 _ _ rfl rfl; clear hF
                  go_simp
                  exact hK _ _ (Grow.refl _) rfl
                refine Plan.det 9 rfl (Grow.refl) ?_
                apply Exists.intro
                refine ⟨fun vs x hR hF K hK => ?_, ?_⟩
                · have f6 := hF 1 _ _ rfl rfl; have f7 := hF 0 _ _ rfl rfl; clear hF
                  go_simp
                  exact hK _ _ (Grow.refl _) rfl
                refine Plan.det 10 rfl (Grow.refl) ?_
                apply Exists.intro
                refine ⟨fun vs x hR hF K hK => ?_, ?_⟩
                · have f6 := hF 2 _ _ rfl rfl; have f8 := hF 0 _ _ rfl rfl; clear hF
                  go_simp
                  exact hK _ _ (Grow.refl _) rfl
                refine Plan.det 11 rfl (Grow.refl) ?_
                apply Exists.intro
                refine ⟨fun vs x hR hF K hK => ?_, ?_⟩
                · have f6 := hF 3 _ _ rfl rfl; have f9 := hF 0 _ _ rfl rfl; have hc := HC.out x hR; clear hF
                  go_simp
                  exact hK _ _ (Grow.refl _) rfl
                refine Plan.det 12 rfl (Grow.refl) ?_
                apply Exists.intro
                refine ⟨fun vs x hR hF K hK => ?_, ?_⟩
                · have f6 := hF 4 _ _ rfl rfl; clear hF
                  go_simp
                  exact hK _ _ (Grow.refl _) rfl
                refine Plan.det 13 rfl (Grow.refl) ?_
                apply Exists.intro
                refine ⟨fun vs x hR hF K hK => ?_, ?_⟩
                · have f6 := hF 5 _ _ rfl rfl; have f11 := hF 0 _ _ rfl rfl; have hc := HC.out x hR; clear hF
                  go_simp
                  exact hK _ _ (Grow.refl _) rfl
                refine Plan.det 14 rfl (Grow.refl) ?_
                apply Exists.intro
                refine ⟨fun vs x hR hF K hK => ?_, ?_⟩
                · have f6 := hF 6 _ _ rfl rfl; have f12 := hF 0 _ _ rfl rfl; clear hF
                  go_simp
                  exact hK _ _ (Grow.refl _) rfl
                refine Plan.det 15 rfl (Grow.refl) ?_
                apply Exists.intro
                refine ⟨fun vs x hR hF K hK => ?_, ?_⟩
                · have f6 := hF 7 _ _ rfl rfl; have f13 := hF 0 _ _ rfl rfl; clear hF
                  go_simp
                  exact hK _ _ (Grow.refl _) rfl
                refine Plan.det 16 rfl (Grow.refl) ?_
                apply Exists.intro
                refine ⟨fun vs x hR hF K hK => ?_, ?_⟩
                · have f6 := hF 8 _ _ rfl rfl; have f14 := hF 0 _ _ rfl rfl; have hc := HC.out x hR; clear hF
                  go_simp
                  exact hK _ _ (Grow.refl _) rfl
                refine Plan.det 17 rfl (Grow.refl) ?_
                apply Exists.intro
                refine ⟨fun vs x hR hF K hK => ?_, ?_⟩
                · have f6 := hF 9 _ _ rfl rfl; have f10 := hF 5 _ _ rfl rfl; have f15 := hF 0 _ _ rfl rfl; clear hF
                  go_simp
                  exact hK _ _ (Grow.refl _) rfl
                refine Plan.det 18 rfl (Grow.refl) ?_
                apply Exists.intro
                refine ⟨fun vs x hR hF K hK => ?_, ?_⟩
                · have f6 := hF 10 _ _ rfl rfl; have f16 := hF 0 _ _ rfl rfl; clear hF
                  go_simp
                  exact hK _ _ (Grow.refl _) rfl
                refine Plan.det 19 rfl (Grow.refl) ?_
                apply Exists.intro
                refine ⟨fun vs x hR hF K hK => ?_, ?_⟩
                · have f6 := hF 11 _ _ rfl rfl; have f17 := hF 0 _ _ rfl rfl; clear hF
                  go_simp
                  exact hK _ _ (Grow.refl _) rfl
                refine Plan.det 20 rfl (Grow.refl) ?_
                apply Exists.intro
                refine ⟨fun vs x hR hF K hK => ?_, ?_⟩
                · have f18 := hF 0 _ _ rfl rfl; clear hF
                  go_simp
                  refine (HAW.out x hR).mono ?_
                  rintro e x1 ⟨rfl, hbe⟩
                  exact ⟨_, rfl, hK _ _ hbe rfl⟩
                refine Plan.det 21 rfl (Grow.refl) ?_
                apply Exists.intro
                refine ⟨fun vs x hR hF K hK => ?_, ?_⟩
                · have f18 := hF 1 _ _ rfl rfl; have f19 := hF 0 _ _ rfl rfl; clear hF
                  go_simp
                  exact hK _ _ (Grow.refl _) rfl
                refine Plan.det 22 rfl (Grow.refl) ?_
                apply Exists.intro
                refine ⟨fun vs x hR hF K hK => ?_, ?_⟩
                · have f0 := hF 20 _ _ rfl rfl; have f1 := hF 19 _ _ rfl rfl; have f2 := hF 18 _ _ rfl rfl; have f3 := hF 17 _ _ rfl rfl; have f4 := hF 16 _ _ rfl rfl; have f5 := hF 15 _ _ rfl rfl; have f6 := hF 14 _ _ rfl rfl; have f7 := hF 13 _ _ rfl rfl; have f8 := hF 12 _ _ rfl rfl; have f9 := hF 11 _ _ rfl rfl; have f10 := hF 10 _ _ rfl rfl; have f11 := hF 9 _ _ rfl rfl; have f12 := hF 8 _ _ rfl rfl; have f13 := hF 7 _ _ rfl rfl; have f14 := hF 6 _ _ rfl rfl; have f15 := hF 5 _ _ rfl rfl; have f16 := hF 4 _ _ rfl rfl; have f17 := hF 3 _ _ rfl rfl; have f18 := hF 2 _ _ rfl rfl; have f19 := hF 1 _ _ rfl rfl; have f20 := hF 0 _ _ rfl rfl; clear hF
                  go_simp
                  exact hK _ _ (Grow.refl _) rfl
                refine Plan.nil (fun vs x hR hF => ?_)
                have f0 := hF 21 _ _ rfl; have f1 := hF 20 _ _ rfl; have f2 := hF 19 _ _ rfl; have f3 := hF 18 _ _ rfl; have f4 := hF 17 _ _ rfl; have f5 := hF 16 _ _ rfl; have f6 := hF 15 _ _ rfl; have f7 := hF 14 _ _ rfl; have f8 := hF 13 _ _ rfl; have f9 := hF 12 _ _ rfl; have f10 := hF 11 _ _ rfl; have f11 := hF 10 _ _ rfl; have f12 := hF 9 _ _ rfl; have f13 := hF 8 _ _ rfl; have f14 := hF 7 _ _ rfl; have f15 := hF 6 _ _ rfl; have f16 := hF 5 _ _ rfl; have f17 := hF 4 _ _ rfl; have f18 := hF 3 _ _ rfl; have f19 := hF 2 _ _ rfl; have f20 := hF 1 _ _ rfl; have f21 := hF 0 _ _ rfl
                clear hF
                simp only [f0, f1, f2, f3, f4, f5, f6, f7, f8, f9, f10, f11, f12, f13, f14, f15, f16, f17, f18, f19, f20, f21]
                clear f0 f1 f2 f3 f4 f5 f6 f7 f8 f9 f10 f11 f12 f13 f14 f15 f16 f17 f18 f19 f20 f21
                simp only [List.drop_succ_cons, List.drop_zero]
                have HBE := hid ((HM6.out.1.later HB.out).later (grow_below hR)).2.2.1
                clear HC HAW HSM hR
                go_wp2_with fail
                all_goals (try go_ret)
                all_goals exact ⟨rfl, HBE.out⟩
        · have hiI : ¬ (i : Int) ≤ s.size := by omega
          have hok := HX.out.2.last (by omega)
          subst hok
          have HAW := hid (awake9_any wr HL4.out.1.2.2.2.2)
          go_wp2_with fail
          refine HAW.out.mono ?_
          rintro e w7 ⟨rfl, hb⟩
          have HB := hid (HL4.out.1.2.2.1.trans (hb.mono HL4.out.1.2.2.1.size))
          clear hb q0 q1 q2
          go_wp2_with fail
          all_goals (try go_ret)
          all_goals exact ⟨rfl, HB.out⟩
    · have hz := leftmostR_err (t := t) (s := s) (at_ := at_) (lines := lines) (by rw [← HRR2.out]; exact hx)
      rw [← HRR2.out] at hz
      obtain ⟨rfl, rfl⟩ : sp2 = [] ∧ ok2 = false := hz
      have hxb : (x2 != 0) = true := by simpa using hx
      have q2 := HM2.out.2.1.c1
      have HAW := hid (awake9_any _ HM2.out.1.2.2.2.2)
      go_wp2_with fail
      refine HAW.out.mono ?_
      rintro e w7 ⟨rfl, hb⟩
      have HB := hid (HM2.out.1.2.2.1.trans (hb.mono HM2.out.1.2.2.1.size))
      clear hb q2
      go_wp2_with fail
      all_goals (try go_ret)
      all_goals exact ⟨rfl, HB.out⟩
end Go.Proofs.YtkinnfejgpnddaaDoor
