/- The law ResimEnds: its walk answers true. -/
import Derived.Test.YtnjcfggadeakpaaLaw11SZ
namespace Go.Proofs.Ytnjcfggadeakpaa
open Go.RowKit
attribute [local go_sem] gives givesUpon

/-- What was found before an end. -/
def LE (m : Sim) (f e : Nat) (b : Option Nat) : Prop := (rightAll m.L → Long m f e b) ∧ (¬ rightAll m.L → b = none)
theorem LE.begin (m : Sim) (f : Nat) : LE m f f none := ⟨fun _ j h1 h2 => absurd h2 (by omega), fun _ => rfl⟩
theorem LE.next {m : Sim} {f e : Nat} {b : Option Nat} {ts : List Nat} (h : LE m f e b) (hf : f ≤ e) (ha : any6 m ts = true ↔ rightAll m.L ∧ hit m f e) : LE m f (e + 1) (if any6 m ts = true then some e else b) := by
  by_cases h6 : any6 m ts = true
  · rw [if_pos h6]
    obtain ⟨h1, h2⟩ := ha.1 h6
    exact ⟨fun _ => ⟨hf, by omega, h2, fun j h3 h4 => by omega⟩, fun hn => absurd h1 hn⟩
  · rw [if_neg h6]
    refine ⟨fun hr => ?_, h.2⟩
    have hn : ¬ hit m f e := fun hh => h6 (ha.2 ⟨hr, hh⟩)
    have hl := h.1 hr
    match b, hl with
    | none, hl =>
      intro j h1 h2 h3
      rcases Nat.lt_or_ge j e with h4 | h4
      · exact hl j h1 h4 h3
      · obtain rfl : j = e := by omega
        exact hn h3
    | some E, hl =>
      obtain ⟨h1, h2, h3, h4⟩ := hl
      refine ⟨h1, by omega, h3, fun j h5 h6 h7 => ?_⟩
      rcases Nat.lt_or_ge j e with h8 | h8
      · exact h4 j h5 h8 h7
      · obtain rfl : j = e := by omega
        exact hn h7
theorem LE.is {m : Sim} {f : Nat} {b b' : Option Nat} (h : LE m f (m.s.length + 1) b) (hf : f ≤ m.s.length) (h' : LgIs m f b') : b' = b := by
  rcases h' with ⟨h1, rfl⟩ | ⟨h1, g, h2, h3, h4⟩
  · rcases h1 with h1 | h1 | h1
    · exact (h.2 h1).symm
    · omega
    · omega
  · obtain rfl : f = g := by omega
    exact h4.unique (h.1 h1)
set_option maxRecDepth 100000 in
set_option maxHeartbeats 8000000 in
theorem LawEnds_any (w : World) (a : Option Addr) (c : Nat) (L : List Inst) (lines : Bool) (str : ByteArray) (at_ : Int) (h : InsAt w a L) (hf : ∀ k (h : k < L.length), L[k].set.wf) (hL : L.length ≤ 1048576) (hs : str.size ≤ 1048576) :
    Calls Try.prog 5 #[.agg #[.slice a L.length c, .bool lines], .string str, .int .i64 at_] w fun e w' => e = .returned (.bool true) ∧ Below w.heap.size w w' := by
  have HBX : Hid (Row (w.alloc (.cells #[.slice a L.length c, .bool lines] 24)) w.heap.size [.slice a L.length c, .bool lines] 24) := Row.at w [.slice a L.length c, .bool lines] _
  have HB0 : Hid (Below w.heap.size w (w.alloc (.cells #[.slice a L.length c, .bool lines] 24))) := Grow.alloc w _
  have HI1 : Hid (InsAt (w.alloc (.cells #[.slice a L.length c, .bool lines] 24)) a L) := h.below HB0.out (Nat.le_refl _)
  have HF := hid hf
  have HFW := hid (few11_any (w.alloc (.cells #[.slice a L.length c, .bool lines] 24)) a c L lines str hL hs)
  clear h hf
  go_enter Try.func5, Try.ntmps5
  go_upto_region 1 with fail
  generalize w.alloc (.cells #[.slice a L.length c, .bool lines] 24) = w1 at *
  have q1 : w1.cell? ⟨w.heap.size, 0, none⟩ = some (.slice a L.length c) ∧ w1.cell? ⟨w.heap.size, 1, none⟩ = some (.bool lines) := ⟨HBX.out.cell 0, HBX.out.cell 1⟩
  generalize hb0 : w.heap.size = b0 at q1 HBX
  go_wp2_with fail
  refine HFW.out.mono ?_
  rintro e w2 ⟨b, rfl, hb, hb2⟩
  have HBX2 := hid (HBX.out.below hb2 HBX.out.lt)
  have HI2 := hid (HI1.out.below hb2 (Nat.le_refl _))
  have HB2 := hid (HB0.out.trans (hb2.mono HB0.out.size))
  have q2 : w2.cell? ⟨b0, 0, none⟩ = some (.slice a L.length c) ∧ w2.cell? ⟨b0, 1, none⟩ = some (.bool lines) := ⟨HBX2.out.cell 0, HBX2.out.cell 1⟩
  clear hb2 q1 HFW
  have HAW : Hid (∀ x, Below w.heap.size w x → Calls Try.prog 9 #[] x fun e w' => e = .returned (.bool true) ∧ Below w.heap.size w w') := fun x hx => (awake11_any x).mono fun e w' ⟨h1, h2⟩ => ⟨h1, hx.trans (h2.mono hx.size)⟩
  cases b with
  | false =>
    clear hb
    go_wp2_with fail
    refine (HAW.out w2 HB2.out).mono ?_
    rintro e w5 ⟨rfl, hb5⟩
    have HB5 := hid hb5
    clear hb5
    go_wp2_with fail
    all_goals (try go_ret)
    all_goals exact ⟨rfl, HB5.out⟩
  | true =>
  have HFE : Hid (isFew L str) := hb.1 rfl
  have hsz : (str.data.toList.length : Nat) = str.size := by rw [Array.length_toList]; rfl
  have h24 : str.size ≤ 24 := HFE.out.2
  clear hb
  rcases Int.lt_or_le at_ 0 with h0 | h0
  · go_wp2_with fail
    refine (HAW.out w2 HB2.out).mono ?_
    rintro e w5 ⟨rfl, hb5⟩
    have HB5 := hid hb5
    clear hb5
    go_wp2_with fail
    all_goals (try go_ret)
    all_goals exact ⟨rfl, HB5.out⟩
  have d0 : decide (at_ < 0) = false := by simpa using h0
  rcases Int.lt_or_le (str.size : Int) at_ with h1 | h1
  · go_wp2_with fail
    refine (HAW.out w2 HB2.out).mono ?_
    rintro e w5 ⟨rfl, hb5⟩
    have HB5 := hid hb5
    clear hb5
    go_wp2_with fail
    all_goals (try go_ret)
    all_goals exact ⟨rfl, HB5.out⟩
  have d1 : decide ((str.size : Int) < at_) = false := by simpa using h1
  obtain ⟨f, rfl⟩ := Int.eq_ofNat_of_zero_le h0
  have hfs : f ≤ str.size := by omega
  have HSZ := hid hsz
  clear hsz
  have HPR : Hid (∀ x, Below w2.heap.size w2 x → Pre x ⟨L, lines, str.data.toList⟩ a str) := fun x hx => Pre.of (HI2.out.below hx (Nat.le_refl _)) HF.out HFE.out
  go_wp2_with fail
  go_loopw [7, 8, 9] (fun vl vf ve wr => ∃ (e : Nat) (b : Option Nat), f ≤ e ∧ e ≤ str.size + 1 ∧ ve = .int .i64 e ∧ vl = .int .i64 (b.getD 0 : Nat) ∧ vf = .bool b.isSome ∧ Hid (LE ⟨L, lines, str.data.toList⟩ f e b ∧ Below w2.heap.size w2 wr)) (fun _ _ ve _ => str.size + 1 - (intOf ve).toNat)
  case atStart => exact ⟨f, none, Nat.le_refl _, by omega, rfl, rfl, rfl, LE.begin _ _, Below.refl _ _⟩
  case round =>
    obtain ⟨e, b, hfe, hes, rfl, rfl, rfl, HX⟩ := hrel
    have HBX4 := hid (HBX2.out.below HX.out.2 HBX2.out.lt)
    have q4 : wr.cell? ⟨b0, 0, none⟩ = some (.slice a L.length c) ∧ wr.cell? ⟨b0, 1, none⟩ = some (.bool lines) := ⟨HBX4.out.cell 0, HBX4.out.cell 1⟩
    rcases Nat.lt_or_ge str.size e with hge | hle
    · obtain rfl : e = str.size + 1 := by omega
      have HLG := hid (Longest_any wr ⟨L, lines, str.data.toList⟩ a c str f (HPR.out wr HX.out.2))
      have HLE := hid HX.out.1
      go_wp2_with fail
      refine HLG.out.mono ?_
      intro e2 w5 h5
      obtain ⟨hb5, b', hb', rfl⟩ := h5.val
      obtain rfl : b' = b := by
        refine LE.is (m := ⟨L, lines, str.data.toList⟩) (f := f) ?_ (by show f ≤ str.data.toList.length; rw [HSZ.out]; exact hfs) hb'
        show LE _ f (str.data.toList.length + 1) b
        rw [HSZ.out]
        exact HLE.out
      have HB5 := hid ((HB2.out.trans (HX.out.2.mono HB2.out.size)).trans (hb5.mono (HB2.out.trans (HX.out.2.mono HB2.out.size)).size))
      clear hb5 h5 hb' q4 HLG HLE
      generalize b'.isSome = bs at *
      generalize b'.getD 0 = bv at *
      go_wp2_with fail
      refine (HAW.out w5 HB5.out).mono ?_
      rintro e w7 ⟨rfl, hb7⟩
      have HB7 := hid hb7
      clear hb7
      go_wp2_with fail
      all_goals (try go_ret)
      all_goals exact ⟨rfl, HB7.out⟩
    have HTH := hid (Threads_any wr ⟨L, lines, str.data.toList⟩ a c str f e (HPR.out wr HX.out.2))
    go_wp2_with fail
    refine HTH.out.mono ?_
    rintro e2 w5 ⟨hb5, v5, ts, rfl, hts, hown⟩
    have htn : ts.length ≤ L.length := hts.len
    have hfew := HFE.out.1
    obtain ⟨a5, c5, rfl⟩ := ownsRow_shape hown
    have HTS := hid hts
    have HO5 := hid hown
    have HBX5 := hid (HBX4.out.below hb5 HBX4.out.lt)
    have HX5 : Hid (LE ⟨L, lines, str.data.toList⟩ f e b ∧ Below w2.heap.size w2 w5) := ⟨HX.out.1, HX.out.2.trans (hb5.mono HX.out.2.size)⟩
    have HI5 := hid (HI2.out.below HX5.out.2 (Nat.le_refl _))
    have q5 : w5.cell? ⟨b0, 0, none⟩ = some (.slice a L.length c) := HBX5.out.cell 0
    clear q4 hts hown hb5 HTH HX HBX4
    go_wp2_with fail
    go_loopw [7, 8, 42] (fun vl vf vi wx => ∃ (q : Nat) (bq : Option Nat), q ≤ ts.length ∧ vi = .int .i64 q ∧ vl = .int .i64 (bq.getD 0 : Nat) ∧ vf = .bool bq.isSome ∧ Hid (bq = if any6 ⟨L, lines, str.data.toList⟩ (ts.take q) = true then some e else b) ∧ Hid (wx = w5)) (fun _ _ vi _ => ts.length - (intOf vi).toNat)
    case atStart => exact ⟨0, b, by omega, rfl, rfl, rfl, rfl, rfl⟩
    case round =>
      obtain ⟨q, bq, hq, rfl, rfl, rfl, HBQ, HW⟩ := hrel
      have hw := HW.out
      subst hw
      rcases Nat.lt_or_ge q ts.length with hql | hqe
      · obtain ⟨g5, rfl, hg5, hc5⟩ := rowN_cell HO5.out hql
        have hkl : ts[q] < L.length := HTS.out.lt (List.getElem_mem hql)
        have HNX : Hid (any6 ⟨L, lines, str.data.toList⟩ (ts.take (q + 1)) = (any6 ⟨L, lines, str.data.toList⟩ (ts.take q) || decide ((Sim.inst ⟨L, lines, str.data.toList⟩ ts[q]).op = 6))) := by
          show _ = _
          rw [List.take_add_one, List.getElem?_eq_getElem hql]
          exact any6_snoc _ (ts.take q) ts[q]
        obtain ⟨fb, fo, hfa, hfb, hfc⟩ := HI5.out.at hkl
        subst hfa
        have hfi := Sim.inst_eq (m := ⟨L, lines, str.data.toList⟩) hkl
        rw [hfi] at HNX
        clear hfi
        generalize ts[q] = k at *
        generalize hff : L[k] = ff at *
        obtain ⟨fop, fset, fx, fy⟩ := ff
        have qi := (cells7 (show CellsAt wr fb (fo + k * 7) [.int .i64 fop, .int .u64 fset.a, .int .u64 fset.b, .int .u64 fset.c, .int .u64 fset.d, .int .i64 fx, .int .i64 fy] from hfc)).1
        have HNX2 : Hid (any6 ⟨L, lines, str.data.toList⟩ (ts.take (q + 1)) = (any6 ⟨L, lines, str.data.toList⟩ (ts.take q) || decide (fop = 6))) := by
          have := HNX.out
          simp only at this
          exact this
        have hqI : (q : Int) < (ts.length : Int) := by omega
        have hkI : (k : Int) < (L.length : Int) := by omega
        clear hfc HNX hff
        by_cases hop : fop = 6
        · subst hop
          have HBN : Hid (some e = if any6 ⟨L, lines, str.data.toList⟩ (ts.take (q + 1)) = true then some e else b) := by show _ = _; rw [HNX2.out]; simp
          go_wp2_with fail
          all_goals
            refine ⟨⟨q + 1, some e, hql, rfl, rfl, rfl, HBN.out, hid trivial⟩, ?_⟩
            show ts.length - ((q : Int) + 1).toNat < ts.length - (q : Int).toNat
            omega
        · have d6 : (fop == 6) = false := by simpa using hop
          have HBN : Hid (bq = if any6 ⟨L, lines, str.data.toList⟩ (ts.take (q + 1)) = true then some e else b) := by show _ = _; rw [HNX2.out, HBQ.out]; simp [hop]
          go_wp2_with fail
          all_goals
            refine ⟨⟨q + 1, bq, hql, rfl, rfl, rfl, HBN.out, hid trivial⟩, ?_⟩
            show ts.length - ((q : Int) + 1).toNat < ts.length - (q : Int).toNat
            omega
      · obtain rfl : q = ts.length := by omega
        have HA6 := hid (HTS.out.any6 hfe (by show e ≤ str.data.toList.length; rw [HSZ.out]; exact hle))
        have HLN : Hid (LE ⟨L, lines, str.data.toList⟩ f (e + 1) bq) := by
          have h := HX5.out.1.next hfe HA6.out
          rw [List.take_length] at HBQ
          rw [← HBQ.out] at h
          exact h
        go_wp2_with fail
        all_goals
          refine ⟨⟨_, _, _, _, ⟨e + 1, by omega, by omega, rfl, bq, rfl, rfl, HLN.out, HX5.out.2⟩, rfl, rfl, rfl, rfl⟩, ?_⟩
          show str.size + 1 - ((e : Int) + 1).toNat < str.size + 1 - (e : Int).toNat
          omega
end Go.Proofs.Ytnjcfggadeakpaa
