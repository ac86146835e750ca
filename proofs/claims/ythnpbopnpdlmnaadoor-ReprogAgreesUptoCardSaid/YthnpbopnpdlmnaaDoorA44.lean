/- Compile of the program. -/
import Derived.Test.YthnpbopnpdlmnaaDoorA16
import Derived.Test.YthnpbopnpdlmnaaDoorA11
import Derived.Test.YthnpbopnpdlmnaaDoorA42
import Derived.Test.YthnpbopnpdlmnaaDoorA43
import Derived.Test.YthnpbopnpdlmnaaDoorA17
import Derived.Laws.IdiomStrings
import Derived.Test.YthnpbopnpdlmnaaDoorCards
import Derived.Test.YthnpbopnpdlmnaaDoorTie
import Derived.Test.YthnpbopnpdlmnaaDoorA25
import Derived.Lib.LaidTab
import Derived.Deep.DeepHandedRow
namespace Go.Proofs.YthnpbopnpdlmnaaDoor
open Go.RowKit
attribute [local go_sem] gives givesUpon

set_option maxRecDepth 100000 in
set_option maxHeartbeats 8000000 in
theorem Compile_any (t : Re) (lines : Bool) (w : World) (cs : List Value) (hIn : t.In w cs) (hsz : t.size ≤ 1048576) :
    Calls Tryd.prog 6 #[.agg cs.toArray, .bool lines] w (CPost t lines w) := by
  cases t with
  | mk p xs =>
    have hIn' := hIn
    rw [Re.In] at hIn
    obtain ⟨ad, cap, rfl, _⟩ := hIn
    simp only [Pay.cells]
    have HI := hid hIn'
    have HSZ := hid hsz
    have HW : Hid (Row ((w.alloc (.cells #[.int .i64 p.op, .int .u64 p.set.a, .int .u64 p.set.b, .int .u64 p.set.c, .int .u64 p.set.d, .int .i64 p.lo, .int .i64 p.hi, .int .i64 p.gr, .slice ad xs.length cap] 28)).alloc (.cells #[.slice none 0 0, .bool false] 35)) w.heap.size [.int .i64 p.op, .int .u64 p.set.a, .int .u64 p.set.b, .int .u64 p.set.c, .int .u64 p.set.d, .int .i64 p.lo, .int .i64 p.hi, .int .i64 p.gr, .slice ad xs.length cap] 28 ∧ Row ((w.alloc (.cells #[.int .i64 p.op, .int .u64 p.set.a, .int .u64 p.set.b, .int .u64 p.set.c, .int .u64 p.set.d, .int .i64 p.lo, .int .i64 p.hi, .int .i64 p.gr, .slice ad xs.length cap] 28)).alloc (.cells #[.slice none 0 0, .bool false] 35)) (w.heap.size + 1) [.slice none 0 0, .bool false] 35 ∧ Below w.heap.size w ((w.alloc (.cells #[.int .i64 p.op, .int .u64 p.set.a, .int .u64 p.set.b, .int .u64 p.set.c, .int .u64 p.set.d, .int .i64 p.lo, .int .i64 p.hi, .int .i64 p.gr, .slice ad xs.length cap] 28)).alloc (.cells #[.slice none 0 0, .bool false] 35))) :=
      ⟨(Row.new (cs := [.int .i64 p.op, .int .u64 p.set.a, .int .u64 p.set.b, .int .u64 p.set.c, .int .u64 p.set.d, .int .i64 p.lo, .int .i64 p.hi, .int .i64 p.gr, .slice ad xs.length cap]) rfl).alloc _, Row.new (cs := [.slice none 0 0, .bool false]) (by simp), ((Below.refl _ w).alloc (Nat.le_refl _) _).alloc (by simp) _⟩
    clear hIn' hsz
    go_enter Tryd.func6, Tryd.ntmps6
    go_wp2_with fail
    refine (Check_any (.mk p xs) _ _ (HI.out.below HW.out.2.2) HSZ.out).mono ?_
    rintro e w1 ⟨rfl, hb⟩
    have HR1 := hid (HW.out.1.below hb (by simp; omega))
    have HP1 := hid (HW.out.2.1.below hb (by simp))
    have HB1 : Hid (Below w.heap.size w w1) := HW.out.2.2.trans (hb.mono (by simp; omega))
    have q1 := HR1.out.c9
    have q2 := HP1.out.c2
    have z1 := HR1.out.lt
    have z2 := HP1.out.lt
    clear hb HW
    rcases (show ((Re.mk p xs).err != 0) = true ∨ ((Re.mk p xs).err != 0) = false by cases ((Re.mk p xs).err != 0) <;> simp) with hd | hd
    · have hne : ¬ (Re.mk p xs).err = 0 := by simpa using hd
      have HF := hid (Re.compiled_err hne)
      have HNE := hid hne
      clear hne
      go_wp2_with fail
      refine ret_row2 4 35 5 rfl (w.heap.size + 1) rfl [.slice none 0 0, .bool false] (CellsAt.of_row (T := 35) (HP1.out.set2 _ _)) _ Tryd.underlying35 rfl (size_prog _ _) rfl ?_
      refine ⟨none, 0, 0, ?_, ?_, below2 HB1.out (by omega) _ _⟩
      · rw [HF.out]; simp [HNE.out]
      · rw [HF.out]; exact OwnI.nil _ _
    · have hz : (Re.mk p xs).err = 0 := by simpa using hd
      have HZ := hid hz
      clear hz
      go_wp2_with fail
      refine (Back_any (.mk p xs) _ _ (HI.out.below HB1.out) HSZ.out).mono ?_
      rintro e w2 ⟨rfl, hb⟩
      have HR2 := hid (HR1.out.below hb HR1.out.lt)
      have HP2 := hid (HP1.out.below hb HP1.out.lt)
      have HB2 : Hid (Below w.heap.size w w2) := HB1.out.trans (hb.mono (by omega))
      have z3 := HR2.out.lt
      have z4 := HP2.out.lt
      clear hb q1 q2 HR1 HP1
      have q1 := HR2.out.c9
      have q2 := HP2.out.c2
      rcases (show decide (0 < (Re.mk p xs).backs) = true ∨ decide (0 < (Re.mk p xs).backs) = false by cases decide (0 < (Re.mk p xs).backs) <;> simp) with hk | hk
      · have hk2 : 0 < (Re.mk p xs).backs := by simpa using hk
        have HF := hid (Re.compiled_back HZ.out hk2)
        clear hk2
        go_wp2_with fail
        refine ret_row2 4 35 5 rfl (w.heap.size + 1) rfl [.slice none 0 0, .bool false] (CellsAt.of_row (T := 35) (HP2.out.set2 _ _)) _ Tryd.underlying35 rfl (size_prog _ _) rfl ?_
        refine ⟨none, 0, 0, ?_, ?_, below2 HB2.out (by omega) _ _⟩
        · rw [HF.out]; simp
        · rw [HF.out]; exact OwnI.nil _ _
      · have hk2 : ¬ 0 < (Re.mk p xs).backs := by simpa using hk
        have HK := hid hk2
        clear hk2
        go_wp2_with fail
        refine (Expand_any (.mk p xs) _ _ (HI.out.below HB2.out) HSZ.out).mono ?_
        rintro e w3 ⟨cs3, rfl, hin3, hb⟩
        have HR3 := hid (HR2.out.below hb HR2.out.lt)
        have HP3 := hid (HP2.out.below hb HP2.out.lt)
        have HB3 : Hid (Below w.heap.size w w3) := HB2.out.trans (hb.mono (by omega))
        have z5 := HR3.out.lt
        have z6 := HP3.out.lt
        have HIN3 := hid hin3
        obtain ⟨p3, ad3, m3, cap3, rfl⟩ := Re.cells_shape hin3
        have HFI := hid (Re.expandR_fine HZ.out)
        have HSE : Hid ((Re.mk p xs).expandR.1.size ≤ 4096) := Re.expandR_size
        clear hb q1 q2 HR2 HP2 hin3
        have q2 := HP3.out.c2
        have HX := hid (And.intro (@Re.compiled_much (.mk p xs)) (And.intro (@Re.compiled_long (.mk p xs)) (@Re.compiled_ok (.mk p xs))))
        generalize (Re.mk p xs).expandR = X at *
        obtain ⟨x3, e3⟩ := X
        simp only [] at *
        rcases (show (e3 != 0) = true ∨ (e3 != 0) = false by cases (e3 != 0) <;> simp) with he | he
        · have hne : ¬ e3 = 0 := by simpa using he
          have HF := hid (HX.out.1 HZ.out HK.out hne)
          have HNE := hid hne
          clear hne
          go_wp2_with fail
          refine ret_row2 4 35 5 rfl (w.heap.size + 1) rfl [.slice none 0 0, .bool false] (CellsAt.of_row (T := 35) ((HP3.out.set2 _ _).alloc _)) _ Tryd.underlying35 rfl (size_prog _ _) rfl ?_
          refine ⟨none, 0, 0, ?_, ?_, (below2 HB3.out (by omega) _ _).alloc (by simp; omega) _⟩
          · rw [HF.out]; simp [HNE.out]
          · rw [HF.out]; exact OwnI.nil _ _
        · have hz : e3 = 0 := by simpa using he
          obtain rfl := hz
          have HL := hid (HX.out.2.1 HZ.out HK.out rfl)
          have HO := hid (HX.out.2.2 HZ.out HK.out rfl)
          have hal := ((Below.refl w3.heap.size w3).alloc (Nat.le_refl _) (.cells #[.int .i64 p3.op, .int .u64 p3.set.a, .int .u64 p3.set.b, .int .u64 p3.set.c, .int .u64 p3.set.d, .int .i64 p3.lo, .int .i64 p3.hi, .int .i64 p3.gr, .slice ad3 m3 cap3] 28)).alloc (by simp) (.cells #[.slice none 0 0, .bool false] 60)
          have HBLD : Hid (BldAt ((w3.alloc (.cells #[.int .i64 p3.op, .int .u64 p3.set.a, .int .u64 p3.set.b, .int .u64 p3.set.c, .int .u64 p3.set.d, .int .i64 p3.lo, .int .i64 p3.hi, .int .i64 p3.gr, .slice ad3 m3 cap3] 28)).alloc (.cells #[.slice none 0 0, .bool false] 60)) (w3.heap.size + 1) none [] false) := ⟨none, 0, Row.new (cs := [.slice none 0 0, .bool false]) (by simp), OwnI.nil _ _, by simp, rfl⟩
          have HTC := hid (btree_any (wb := w3) (w3.heap.size + 1) (by omega) x3 HFI.out (by have := HSE.out; omega) _ _ none [] false HIN3.out hal HBLD.out (fun e => (by cases e)))
          have HAL := hid hal
          clear hal
          go_wp2_with fail
          refine HTC.out.mono ?_
          unfold TPost BPost
          rintro e w5 ⟨L1, o1, rfl, hs1, go1, hb1, hg1, hf1⟩
          have HST := hid (hs1.trans (StR.add (L := L1) (ov := o1) ⟨6, Cs.none, 0, 0⟩ hs1.full hb1.len) (Re.gen_len x3))
          have HAD := hid (addLit_any (w3.heap.size + 1) 6 0 0 L1 o1 w5 go1 hb1)
          have HF1 := hid hf1
          have HG1 := hid hg1
          clear hs1 hb1 hg1 hf1 HTC HBLD
          go_wp2_with fail
          refine HAD.out.mono ?_
          unfold BPost
          rintro e w6 ⟨rfl, go2, hb2, hg2, hf2⟩
          have HB36 : Hid (Below w3.heap.size w3 w6) := HAL.out.trans ((HF1.out.trans HG1.out hf2).below HAL.out.size (by omega) (fun g hg => (by cases hg)))
          have HP6 := hid (HP3.out.below HB36.out HP3.out.lt)
          have HB6 : Hid (Below w.heap.size w w6) := HB3.out.trans (HB36.out.mono (by omega))
          obtain ⟨a, c, k1, k2, k3, k4⟩ := hb2
          have q3 := k1.c2
          have q4 := HP6.out.c2
          have z7 := k1.lt
          have z8 := HP6.out.lt
          have HOW := hid k2
          generalize addL L1 ⟨6, Cs.none, 0, 0⟩ = L2 at *
          generalize addO L1 o1 = o2 at *
          clear k1 k2 k4 hg2 hf2 HAD HF1 HG1 q2
          cases o2 with
          | true =>
            have HF := hid (HL.out (by
              rcases Nat.lt_or_ge 4096 (x3.csize + 1) with h | h
              · exact h
              · have h2 := (HST.out.fit rfl (by simpa using h)).2
                cases h2))
            go_wp2_with fail
            refine ret_row2 4 35 5 rfl (w.heap.size + 1) rfl [.slice none 0 0, .bool false] (CellsAt.of_row (T := 35) (HP6.out.set2 _ _)) _ Tryd.underlying35 rfl (size_prog _ _) rfl ?_
            refine ⟨none, 0, 0, ?_, ?_, below2 HB6.out (by omega) _ _⟩
            · rw [HF.out]; simp
            · rw [HF.out]; exact OwnI.nil _ _
          | false =>
            have hcn : ¬ 4096 < x3.csize + 1 := fun h => by
              have h2 := HST.out.over rfl (by simpa using h)
              cases h2
            have HF := hid (HO.out hcn)
            have HLL : Hid (L2 = x3.gen 0 ++ [Inst.of 6]) := by
              have h := (HST.out.fit rfl (by simp; omega)).1
              show _ = _
              rw [h]
              rfl
            go_wp2_with fail
            refine ret_row2 4 35 5 rfl (w.heap.size + 1) rfl [.slice a L2.length c, .bool lines] (CellsAt.of_row (T := 35) (HP6.out.set2 _ _)) _ Tryd.underlying35 rfl (size_prog _ _) rfl ?_
            refine ⟨a, L2.length, c, ?_, ?_, below2 HB6.out (by omega) _ _⟩
            · rw [HF.out]; simp
            · rw [HF.out]; rw [← HLL.out]; exact (HOW.out.set2 (by omega) _ _).weak (by omega)
end Go.Proofs.YthnpbopnpdlmnaaDoor

/- Compile of the reference. -/
namespace Go.Proofs.YthnpbopnpdlmnaaDoor
open Go.RowKit
attribute [local go_sem] gives givesUpon

end Go.Proofs.YthnpbopnpdlmnaaDoor

/- The makers of trees of the law before; the example: awake answers true. -/
namespace Go.Proofs.YthnpbopnpdlmnaaDoor
open Go.RowKit
attribute [local go_sem] gives givesUpon

def byteRe (c : UInt8) : Re := .mk ⟨2, Cs.of [c], 0, 0, 0⟩ []
theorem I64_of {n : Int} (h : -64 ≤ n ∧ n ≤ 64) : I64 n := ⟨by omega, by omega⟩
theorem byte_in (c : UInt8) (w : World) : (byteRe c).In w [.int .i64 2, .int .u64 (Cs.of [c]).a, .int .u64 (Cs.of [c]).b, .int .u64 (Cs.of [c]).c, .int .u64 (Cs.of [c]).d, .int .i64 0, .int .i64 0, .int .i64 0, .slice none 0 0] := ((OwnRes.nil w 0 (0 ≤ ·)).node (fun k hk => hk) ⟨2, Cs.of [c], 0, 0, 0⟩ ⟨I64_of (n := 2) (by omega), Cs.of_wf _, I64_of (n := 0) (by omega), I64_of (n := 0) (by omega), I64_of (n := 0) (by omega)⟩).self

set_option maxRecDepth 100000 in
set_option maxHeartbeats 2000000 in
theorem byte9_any (c : UInt8) (w : World) :
    Calls Tryd.prog 15 #[.int .u8 c.toNat] w fun e w' => e = .returned (.agg #[.int .i64 2, .int .u64 (Cs.of [c]).a, .int .u64 (Cs.of [c]).b, .int .u64 (Cs.of [c]).c, .int .u64 (Cs.of [c]).d, .int .i64 0, .int .i64 0, .int .i64 0, .slice none 0 0]) ∧ Below w.heap.size w w' := by
  have HW : Hid (Row ((w.alloc (.cells #[.int .i64 0, .int .u64 0, .int .u64 0, .int .u64 0, .int .u64 0, .int .i64 0, .int .i64 0, .int .i64 0, .slice none 0 0] 28)).alloc (.cells #[.int .u8 c.toNat] 5)) w.heap.size [.int .i64 0, .int .u64 0, .int .u64 0, .int .u64 0, .int .u64 0, .int .i64 0, .int .i64 0, .int .i64 0, .slice none 0 0] 28 ∧ Row ((w.alloc (.cells #[.int .i64 0, .int .u64 0, .int .u64 0, .int .u64 0, .int .u64 0, .int .i64 0, .int .i64 0, .int .i64 0, .slice none 0 0] 28)).alloc (.cells #[.int .u8 c.toNat] 5)) (w.heap.size + 1) [.int .u8 c.toNat] 5 ∧ Below w.heap.size w ((w.alloc (.cells #[.int .i64 0, .int .u64 0, .int .u64 0, .int .u64 0, .int .u64 0, .int .i64 0, .int .i64 0, .int .i64 0, .slice none 0 0] 28)).alloc (.cells #[.int .u8 c.toNat] 5))) :=
    ⟨(Row.new (cs := [.int .i64 0, .int .u64 0, .int .u64 0, .int .u64 0, .int .u64 0, .int .i64 0, .int .i64 0, .int .i64 0, .slice none 0 0]) rfl).alloc _, Row.new (cs := [.int .u8 c.toNat]) (by simp), ((Below.refl _ w).alloc (Nat.le_refl _) _).alloc (by simp) _⟩
  have hcv : (convert 79 9 (.slice (some ⟨w.heap.size + 1, 0, none⟩) 1 1)).run Tryd.prog ((w.alloc (.cells #[.int .i64 0, .int .u64 0, .int .u64 0, .int .u64 0, .int .u64 0, .int .i64 0, .int .i64 0, .int .i64 0, .slice none 0 0] 28)).alloc (.cells #[.int .u8 c.toNat] 5)) = .ok (.string ⟨#[c]⟩) ((w.alloc (.cells #[.int .i64 0, .int .u64 0, .int .u64 0, .int .u64 0, .int .u64 0, .int .i64 0, .int .i64 0, .int .i64 0, .slice none 0 0] 28)).alloc (.cells #[.int .u8 c.toNat] 5)) :=
    run_convert_bytes_back _ _ _ 5 ⟨w.heap.size + 1, 0, none⟩ 1 [c] Tryd.underlying79 Tryd.underlying5 Tryd.underlying9 (fun j hj => by
      have hj0 : j = 0 := by simp at hj; exact hj
      subst hj0
      rw [Addr.add_lit]
      exact HW.out.2.1.cell 0)
  go_enter Tryd.func15, Tryd.ntmps15
  go_wp2_with fail
  refine (Of_any ⟨#[c]⟩ _ (by show 1 ≤ _; omega)).mono ?_
  rintro e w1 ⟨rfl, hb⟩
  have hr := HW.out.1.below hb (by simp; omega)
  have q1 := hr.c9
  have z1 := hr.lt
  have HR := hid hr
  have HB : Hid (Below w.heap.size w w1) := HW.out.2.2.trans (hb.mono (by simp; omega))
  have hof := Cs.of_wf [c]
  clear hb hr hcv HW
  have e0 : (ByteArray.mk #[c]).data.toList = [c] := rfl
  rw [e0]
  generalize hS : Cs.of [c] = S at *
  have HS := hid hS
  clear hS hof
  go_wp2_with fail
  refine ret_row 2 28 rfl w.heap.size rfl [.int .i64 2, .int .u64 S.a, .int .u64 S.b, .int .u64 S.c, .int .u64 S.d, .int .i64 0, .int .i64 0, .int .i64 0, .slice none 0 0] (CellsAt.of_row (T := 28) (HR.out.set9 _ _ _ _ _ _ _ _ _)) _ Tryd.underlying28 rfl (size_relen rfl) rfl ?_
  rw [HS.out]
  exact ⟨rfl, below9 HB.out (Nat.le_refl _) _ _ _ _ _ _ _ _ _⟩

set_option maxHeartbeats 2000000 in
theorem node9_any (op : Int) (ad : Option Addr) (n cap : Nat) (w : World) :
    Calls Tryd.prog 14 #[.int .i64 op, .slice ad n cap] w fun e w' => e = .returned (.agg #[.int .i64 op, .int .u64 0, .int .u64 0, .int .u64 0, .int .u64 0, .int .i64 0, .int .i64 0, .int .i64 0, .slice ad n cap]) ∧ Below w.heap.size w w' := by
  go_enter Tryd.func14, Tryd.ntmps14
  go_wp2_with fail
  refine ret_row 4 28 rfl w.heap.size rfl [.int .i64 op, .int .u64 0, .int .u64 0, .int .u64 0, .int .u64 0, .int .i64 0, .int .i64 0, .int .i64 0, .slice ad n cap] (CellsAt.of_row (T := 28) (Row.at _ _ _)) _ Tryd.underlying28 rfl (size_relen rfl) rfl ?_
  exact ⟨rfl, (Below.refl _ w).alloc (Nat.le_refl _) _⟩

theorem node2_in {w : World} {B : Nat} {p : Pay} {t1 t2 : Re} {c1 c2 cs : List Value} (hp : p.wf) (hr : Row w B (c1 ++ c2) 28) (h1 : t1.In w c1) (h2 : t2.In w c2) (hc : cs = p.cells (.slice (some ⟨B, 0, none⟩) 2 2)) : (Re.mk p [t1, t2]).In w cs := by
  subst hc
  rw [Re.In]
  have n1 := h1.nine
  refine ⟨some ⟨B, 0, none⟩, 2, rfl, hp, Nat.le_refl _, by decide, (fun h => by cases h), ?_⟩
  rw [Re.AllIn, Re.AllIn, Re.AllIn]
  refine ⟨⟨B, 0, c1, rfl, fun j v hj => ?_, h1⟩, ⟨B, 0, c2, rfl, fun j v hj => ?_, h2⟩, trivial⟩
  · have hjl := (List.getElem?_eq_some_iff.1 hj).1
    rw [hr.cell, List.getElem?_append_left (by omega)]
    simpa using hj
  · rw [hr.cell, List.getElem?_append_right (by omega), ← hj]
    congr 1
    omega

theorem node1_in {w : World} {B : Nat} {p : Pay} {t1 : Re} {c1 cs : List Value} (hp : p.wf) (hr : Row w B c1 28) (h1 : t1.In w c1) (hc : cs = p.cells (.slice (some ⟨B, 0, none⟩) 1 1)) : (Re.mk p [t1]).In w cs := by
  subst hc
  rw [Re.In]
  refine ⟨some ⟨B, 0, none⟩, 1, rfl, hp, Nat.le_refl _, by decide, (fun h => by cases h), ?_⟩
  rw [Re.AllIn, Re.AllIn]
  refine ⟨⟨B, 0, c1, rfl, fun j v hj => ?_, h1⟩, trivial⟩
  rw [hr.cell, ← hj]
  congr 1
  omega
def E1 : Re := .mk (Pay.ofRep 0 (-1)) [.mk (Pay.of 4) [byteRe 97, byteRe 98]]
theorem E1_comp : E1.compiled = ([isplit 1 6, isplit 2 4, ⟨1, Cs.of [97], 0, 0⟩, ijump 5, ⟨1, Cs.of [98], 0, 0⟩, ijump 0, Inst.of 6], 0) := by decide
theorem eq_i0 (x : World) : (Op.equalIn 10000 53 (.agg #[.int .i64 2, .int .u64 0, .int .u64 0, .int .u64 0, .int .u64 0, .int .i64 1, .int .i64 6]) (.agg #[.int .i64 2, .int .u64 0, .int .u64 0, .int .u64 0, .int .u64 0, .int .i64 1, .int .i64 6])).run Tryd.prog x = .ok true x := by
  have h := run_eqIn_inst (isplit 1 6) (isplit 1 6) x
  rw [decide_eq_true rfl] at h
  exact h
theorem eq_i3 (x : World) : (Op.equalIn 10000 53 (.agg #[.int .i64 3, .int .u64 0, .int .u64 0, .int .u64 0, .int .u64 0, .int .i64 5, .int .i64 0]) (.agg #[.int .i64 3, .int .u64 0, .int .u64 0, .int .u64 0, .int .u64 0, .int .i64 5, .int .i64 0])).run Tryd.prog x = .ok true x := by
  have h := run_eqIn_inst (ijump 5) (ijump 5) x
  rw [decide_eq_true rfl] at h
  exact h
theorem Compile_E1 {x : World} {cs : List Value} (h : E1.In x cs) : Calls Tryd.prog 6 #[.agg cs.toArray, .bool true] x fun e w' => ∃ (a : Option Addr) (c : Nat), e = .returned (.tuple #[.agg #[.slice a 7 c, .bool true], .int .i64 0]) ∧ OwnI w' x.heap.size (.slice a 7 c) E1.compiled.1 ∧ Below x.heap.size x w' := by
  refine (Compile_any E1 true x cs h (by decide)).mono ?_
  rintro e w' ⟨a, n, c, rfl, h1, h2⟩
  have hn := h1.n
  rw [E1_comp] at hn
  simp at hn
  subst hn
  have h3 : E1.compiled.2 = 0 := by rw [E1_comp]
  refine ⟨a, c, ?_, h1, h2⟩
  rw [h3]
  rfl
theorem Valid_E1 {x : World} {b : Nat} {v : Value} (h : OwnI x b v E1.compiled.1) : Calls Tryd.prog 8 #[.agg #[v, .bool true]] x fun e w' => e = .returned (.bool true) ∧ Below x.heap.size x w' :=
  Valid_any x b v _ true h (Re.compiled_right (by rw [E1_comp]))

set_option maxRecDepth 100000 in
set_option maxHeartbeats 4000000 in
theorem awake_any (w : World) : Calls Tryd.prog 5 #[] w fun e w' => e = .returned (.bool true) ∧ Below w.heap.size w w' := by
  go_enter Tryd.func5, Tryd.ntmps5
  go_wp2_with fail
  refine (byte9_any 97 _).mono ?_
  rintro e w1 ⟨rfl, hb1⟩
  go_wp2_with fail
  refine (byte9_any 98 _).mono ?_
  rintro e w2 ⟨rfl, hb2⟩
  have HB2 : Hid (Below w.heap.size w w2) := hb1.trans (hb2.mono hb1.size)
  clear hb1 hb2
  go_wp2_with fail
  refine (node9_any 4 _ _ _ _).mono ?_
  rintro e w3 ⟨rfl, hb3⟩
  have hr3 := (Row.new (w := w2) (B := w2.heap.size) (T := 28) (cs := [.int .i64 2, .int .u64 (Cs.of [97]).a, .int .u64 (Cs.of [97]).b, .int .u64 (Cs.of [97]).c, .int .u64 (Cs.of [97]).d, .int .i64 0, .int .i64 0, .int .i64 0, .slice none 0 0] ++ [.int .i64 2, .int .u64 (Cs.of [98]).a, .int .u64 (Cs.of [98]).b, .int .u64 (Cs.of [98]).c, .int .u64 (Cs.of [98]).d, .int .i64 0, .int .i64 0, .int .i64 0, .slice none 0 0]) rfl).below hb3 (by simp)
  have HT3 : Hid ((Re.mk (Pay.of 4) [byteRe 97, byteRe 98]).In w3 [.int .i64 4, .int .u64 0, .int .u64 0, .int .u64 0, .int .u64 0, .int .i64 0, .int .i64 0, .int .i64 0, .slice (some ⟨w2.heap.size, 0, none⟩) 2 2]) := node2_in (Pay.of_wf (I64_of (by omega))) hr3 (byte_in 97 w3) (byte_in 98 w3) rfl
  have HB3 : Hid (Below w.heap.size w w3) := (HB2.out.alloc HB2.out.size _).trans (hb3.mono (by have := HB2.out.size; simp; omega))
  clear hb3 hr3 HB2
  generalize w2.heap.size = B2 at *
  have hal := ((Below.refl w3.heap.size w3).alloc (Nat.le_refl _) (.cells #[.int .i64 4, .int .u64 0, .int .u64 0, .int .u64 0, .int .u64 0, .int .i64 0, .int .i64 0, .int .i64 0, .slice (some ⟨B2, 0, none⟩) 2 2] 28)).alloc (by simp) (.cells #[.int .i64 5, .int .u64 0, .int .u64 0, .int .u64 0, .int .u64 0, .int .i64 0, .int .i64 (-1), .int .i64 0, .slice (some ⟨w3.heap.size, 0, none⟩) 1 1] 28)
  have HT4 : Hid (E1.In _ [.int .i64 5, .int .u64 0, .int .u64 0, .int .u64 0, .int .u64 0, .int .i64 0, .int .i64 (-1), .int .i64 0, .slice (some ⟨w3.heap.size, 0, none⟩) 1 1]) := node1_in (Pay.ofRep_wf (I64_of (by omega)) (I64_of (by omega))) ((Row.new (w := w3) (B := w3.heap.size) (T := 28) (cs := [.int .i64 4, .int .u64 0, .int .u64 0, .int .u64 0, .int .u64 0, .int .i64 0, .int .i64 0, .int .i64 0, .slice (some ⟨B2, 0, none⟩) 2 2]) rfl).alloc (.cells #[.int .i64 5, .int .u64 0, .int .u64 0, .int .u64 0, .int .u64 0, .int .i64 0, .int .i64 (-1), .int .i64 0, .slice (some ⟨w3.heap.size, 0, none⟩) 1 1] 28)) (HT3.out.below hal) rfl
  have HB4 : Hid (Below w.heap.size w _) := HB3.out.trans (hal.mono HB3.out.size)
  have HC := hid (Compile_E1 HT4.out)
  clear hal HT3 HB3
  go_wp2_with fail
  refine HC.out.mono ?_
  rintro e w5 ⟨a, c, rfl, ho, hb5⟩
  have HB5 : Hid (Below w.heap.size w w5) := HB4.out.trans (hb5.mono HB4.out.size)
  have HO := hid (ho.alloc (.cells #[.slice a 7 c, .bool true] 35))
  have HBA : Hid (Below w.heap.size w (w5.alloc (.cells #[.slice a 7 c, .bool true] 35))) := HB5.out.alloc HB5.out.size _
  have HV := hid (Valid_E1 HO.out)
  have HRP : Hid (Row (w5.alloc (.cells #[.slice a 7 c, .bool true] 35)) w5.heap.size [.slice a 7 c, .bool true] 35) := Row.new rfl
  clear ho hb5 HC HT4 HB4
  go_wp2_with fail
  refine HV.out.mono ?_
  rintro e w6 ⟨rfl, hb6⟩
  have hr6 := HRP.out.below hb6 HRP.out.lt
  have q6 := hr6.c2
  have z6 := hr6.lt
  have HO6 := hid (HO.out.below hb6)
  have HB6 : Hid (Below w.heap.size w w6) := HBA.out.trans (hb6.mono HBA.out.size)
  have e0 : E1.compiled.1[0]? = some (isplit 1 6) := by rw [E1_comp]; rfl
  have e3 : E1.compiled.1[3]? = some (ijump 5) := by rw [E1_comp]; rfl
  have e6 : E1.compiled.1[6]? = some (Inst.of 6) := by rw [E1_comp]; rfl
  obtain ⟨-, g, rfl, k1, k2, k3, -, -, -⟩ := HO6.out.elem 0 _ e0
  obtain ⟨-, g3, h3, -, -, l3, -, -, -⟩ := HO6.out.elem 3 _ e3
  obtain ⟨-, g6, h6, -, -, m3, -, -, -⟩ := HO6.out.elem 6 _ e6
  obtain rfl : g = g3 := by injection h3 with h; injection h
  obtain rfl : g = g6 := by injection h6 with h; injection h
  have p0 : w6.cell? ⟨g, 0, none⟩ = some (.int .i64 2) ∧ w6.cell? ⟨g, 1, none⟩ = some (.int .u64 0) ∧ w6.cell? ⟨g, 2, none⟩ = some (.int .u64 0) ∧ w6.cell? ⟨g, 3, none⟩ = some (.int .u64 0) ∧ w6.cell? ⟨g, 4, none⟩ = some (.int .u64 0) ∧ w6.cell? ⟨g, 5, none⟩ = some (.int .i64 1) ∧ w6.cell? ⟨g, 6, none⟩ = some (.int .i64 6) := k3.c7i
  have p3 : w6.cell? ⟨g, 21, none⟩ = some (.int .i64 3) ∧ w6.cell? ⟨g, 22, none⟩ = some (.int .u64 0) ∧ w6.cell? ⟨g, 23, none⟩ = some (.int .u64 0) ∧ w6.cell? ⟨g, 24, none⟩ = some (.int .u64 0) ∧ w6.cell? ⟨g, 25, none⟩ = some (.int .u64 0) ∧ w6.cell? ⟨g, 26, none⟩ = some (.int .i64 5) ∧ w6.cell? ⟨g, 27, none⟩ = some (.int .i64 0) := l3.c7i
  have p6 : w6.cell? ⟨g, 42, none⟩ = some (.int .i64 6) ∧ w6.cell? ⟨g, 43, none⟩ = some (.int .u64 0) ∧ w6.cell? ⟨g, 44, none⟩ = some (.int .u64 0) ∧ w6.cell? ⟨g, 45, none⟩ = some (.int .u64 0) ∧ w6.cell? ⟨g, 46, none⟩ = some (.int .u64 0) ∧ w6.cell? ⟨g, 47, none⟩ = some (.int .i64 0) ∧ w6.cell? ⟨g, 48, none⟩ = some (.int .i64 0) := m3.c7i
  have heq0 := fun x => eq_i0 x
  have heq3 := fun x => eq_i3 x
  clear hb6 hr6 k1 k2 k3 l3 m3 h3 h6 e0 e3 e6 HV HO HRP HBA HB5
  go_wp2_with fail
  go_ret
  exact ⟨rfl, HB6.out⟩
end Go.Proofs.YthnpbopnpdlmnaaDoor

/- How many parses are handed out. -/
namespace Go.Proofs.YthnpbopnpdlmnaaDoor
open Go.RowKit

theorem parsesR_len {t : Re} {s : ByteArray} {at_ : Int} {lines : Bool} : (parsesR t s at_ lines).1.length ≤ 4096 := by
  have hsl : s.data.toList.length = s.size := by rw [Array.length_toList]; rfl
  unfold parsesR
  by_cases h : chk t s at_ ≠ 0
  · rw [if_pos h]; simp
  · rw [if_neg h]
    have h0 : chk t s at_ = 0 := Classical.byContradiction h
    obtain ⟨h1, h2, h3⟩ := chk_zero h0
    obtain ⟨ok, hg, -⟩ := Re.ok_err h1
    cases hp : parses s.data.toList lines t at_.toNat (unsetAll t.groups) with
    | none => simp
    | some l => exact parses_len ok (by rw [hsl]; omega) (by rw [hsl]; exact unsetAll_ok _ _) hp
end Go.Proofs.YthnpbopnpdlmnaaDoor

/- What the row's list gives: the tables that the matching reads. -/
namespace Go.Proofs.YthnpbopnpdlmnaaDoor
open Go.ChangeShapes Go.WideShapes Go.ChangeAt Go.RowKit
set_option linter.unusedVariables false

theorem gPow : Tryd.prog.globalNamed "internal/strconv.uint64pow10" = some 1 := by kernel_rfl
theorem gPowType : (Tryd.prog.globals[1]?).map (·.type) = some 125 := by kernel_rfl
theorem gNone : Tryd.prog.globalNamed "texttools/rematch.none" = some 0 := by kernel_rfl
theorem gNoneType : (Tryd.prog.globals[0]?).map (·.type) = some 74 := by kernel_rfl
theorem gB64 : Tryd.prog.globalNamed "math/bits.deBruijn64tab" = some 3 := by kernel_rfl
theorem cells_tabs : Tryd.prog.cellsOf 125 = 20 ∧ Tryd.prog.cellsOf 22 = 1 := by refine ⟨?_, ?_⟩ <;> kernel_rfl

def theLaid {H : Type} : List (String × DataW H) := [("math/bits.deBruijn32tab", Rows.laid_math_bits_deBruijn32tab), ("math/bits.deBruijn64tab", Rows.laid_math_bits_deBruijn64tab), ("internal/strconv.uint64pow10", Rows.laid_internal_strconv_uint64pow10), ("texttools/rematch.none", Rows.laid_texttools_rematch_none)]
theorem var_lt {W : World} {g : Nat} {n : String} {v : Array Value} (hg : Tryd.prog.globalNamed n = some g) (h : W.var? Tryd.prog n = some v) : g < W.heap.size := by
  unfold World.var? at h
  rw [hg] at h
  simp only [Option.bind_some] at h
  rcases Nat.lt_or_ge g W.heap.size with h9 | h9
  · exact h9
  · rw [Array.getElem?_eq_none h9] at h
    cases h
theorem var_cell9 {W : World} {n : String} {g : Nat} {cs : Array Value} (hg : Tryd.prog.globalNamed n = some g) (h : W.var? Tryd.prog n = some cs) (off : Nat) : W.cell? ⟨g, off, none⟩ = cs[off]? := by
  unfold World.var? at h
  rw [hg] at h
  simp only [Option.bind_some] at h
  unfold World.cell?
  split at h
  · rename_i cs' t' f' he
    have := Option.some.inj h
    subst this
    simp [he]
  · cases h
theorem tabs9_of_laid {W : World} (h : laidMetH Tryd.prog theLaid W) : Tabs9 W := by
  have h2 : laidMet Tryd.prog theLaid W := h
  obtain ⟨ps, hv, -, -⟩ := h2
  obtain ⟨_, _, _, _, _, q1, _, _, _, _, hv, _⟩ := hv
  obtain ⟨g3, _, _, _, _, q2, hg3, _, hvar3, _, hv, _⟩ := hv
  obtain ⟨g, t, cs, fuel, _, q3, hg, ht, hvar, hd, hv, _⟩ := hv
  obtain ⟨g', t', cs', fuel', _, q4, hg', ht', hvar', hd', hv, _⟩ := hv
  obtain rfl := Option.some.inj (gPow.symm.trans hg)
  obtain rfl := Option.some.inj (gPowType.symm.trans ht)
  obtain rfl := Option.some.inj (gNone.symm.trans hg')
  obtain rfl := Option.some.inj (gNoneType.symm.trans ht')
  have e1 : cs.toList = Lib.pow10Tab.map fun z => Value.int .u64 z := Lib.cells_of_tab (H := Unit) Tryd.underlying125 Tryd.underlying22 cells_tabs.2 cells_tabs.1 hd
  have e2 : cs'.toList = [.int .i64 (-1), .int .i64 (-1)] := by
    obtain ⟨y0, y1, n, he, hl, h0, h1⟩ := trod_struct2 Tryd.underlying74 hd'
    obtain ⟨z0, hc0, hy0, _⟩ := DataW.trod_int Tryd.underlying3 h0
    obtain ⟨z1, hc1, hy1, _⟩ := DataW.trod_int Tryd.underlying3 h1
    subst hy0; subst hy1
    have hcl : Tryd.prog.cellsOf 74 = 2 ∧ Tryd.prog.cellsOf 3 = 1 := by refine ⟨?_, ?_⟩ <;> kernel_rfl
    simp only [Prod.mk.injEq, DataW.agg.injEq, Rows.laid_texttools_rematch_none, List.cons.injEq, DataW.lit.injEq, Lit.int.injEq, true_and, and_true] at he
    obtain ⟨⟨rfl, rfl⟩, -⟩ := he
    rw [hcl.1] at hl
    have hc0' : (cs'.toList.drop 0).take (Tryd.prog.cellsOf 3) = [.int .i64 (-1)] := hc0
    have hc1' : (cs'.toList.drop 1).take (Tryd.prog.cellsOf 3) = [.int .i64 (-1)] := hc1
    rw [hcl.2] at hc0' hc1'
    generalize cs'.toList = L at hl hc0' hc1'
    match L, hl with
    | [u, v], _ => simp at hc0' hc1'; rw [hc0', hc1']
  have hn0 := fun off => var_cell9 gNone hvar' off
  have e3 : cs' = #[.int .i64 (-1), .int .i64 (-1)] := by rw [← Array.toArray_toList (xs := cs'), e2]
  obtain rfl := Option.some.inj (gB64.symm.trans hg3)
  refine ⟨?_, by rw [hn0, e3]; rfl, by rw [hn0, e3]; rfl, var_lt gB64 hvar3⟩
  unfold Lib.TabIs
  rw [hvar, ← e1]
def setCells (cs : Array Value) : Obj → Obj
  | .cells _ t frozen => .cells cs t frozen
  | o => o
def ofLits (l : List (DataW Unit)) : Array Value := (l.map fun d => match d with
  | .lit (.int k z) => Value.int k z
  | .lit (.string s) => .string ⟨s.toArray⟩
  | _ => .bool false).toArray
def partsOf : DataW Unit → List (DataW Unit)
  | .agg l => l
  | _ => []
noncomputable def laidWorld (os : Os) : World :=
  { World.holding Tryd.prog os ⟨#[], #[], []⟩ with heap := ((((World.holding Tryd.prog os ⟨#[], #[], []⟩).heap.modify 0 (setCells (ofLits (partsOf Rows.laid_texttools_rematch_none)))).modify 1 (setCells (ofLits (partsOf Rows.laid_internal_strconv_uint64pow10)))).modify 2 (setCells (ofLits (partsOf Rows.laid_math_bits_deBruijn32tab)))).modify 3 (setCells (ofLits (partsOf Rows.laid_math_bits_deBruijn64tab))) }
set_option maxRecDepth 100000 in
theorem laid_met (os : Os) (args : Array Value) : laidMet Tryd.prog theLaid ((laidWorld os).forCall (fun _ _ => 0) ⟨#[], args, []⟩).memory :=
  laidMet_of_run' 8 (by kernel_rfl) (by kernel_rfl)
end Go.Proofs.YthnpbopnpdlmnaaDoor
