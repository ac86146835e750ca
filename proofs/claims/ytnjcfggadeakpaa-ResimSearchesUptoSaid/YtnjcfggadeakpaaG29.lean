/- The law's few, alternatives and awake. -/
import Derived.Test.YtnjcfggadeakpaaG22
import Derived.Test.YtnjcfggadeakpaaG27
import Derived.Test.YtnjcfggadeakpaaG28
import Derived.Test.YtnjcfggadeakpaaG15
import Derived.Great.BuildSlice
namespace Go.Proofs.Ytnjcfggadeakpaa
open Go.RowKit
attribute [local go_sem] gives givesUpon

-- def Z9 := [.int .i64 0, .int .u64 0, .int .u64 0, .int .u64 0, .int .u64 0, .int .i64 0, .int .i64 0, .int .i64 0, .slice none 0 0]
theorem InsAt.of_own {w : World} {base : Nat} {a : Option Addr} {n c : Nat} {L : List Inst} (h : OwnI w base (.slice a n c) L) : InsAt w a L := by
  rcases Nat.eq_zero_or_pos L.length with h0 | h0
  · exact .inl (List.length_eq_zero_iff.1 h0)
  · obtain ⟨-, g, rfl, -, -⟩ := h.elem 0 _ (List.getElem?_eq_getElem h0)
    refine .inr ⟨g, 0, rfl, (h.lt g rfl).2, fun i hi => ?_⟩
    obtain ⟨-, g', hg, -, -, h3, -⟩ := h.elem i _ (List.getElem?_eq_getElem hi)
    obtain rfl : g = g' := by injection hg with h; injection h
    rw [Nat.zero_add]
    exact h3
def isFew (L : List Inst) (str : ByteArray) : Prop := L.length ≤ 60 ∧ str.size ≤ 24
set_option maxHeartbeats 2000000 in
theorem few11_any (w : World) (a : Option Addr) (c : Nat) (L : List Inst) (lines : Bool) (str : ByteArray) (hL : L.length ≤ 1048576) (hs : str.size ≤ 1048576) :
    Calls Try.prog 8 #[.agg #[.slice a L.length c, .bool lines], .string str] w fun e w' => ∃ b : Bool, e = .returned (.bool b) ∧ (b = true ↔ isFew L str) ∧ Below w.heap.size w w' := by
  have HBX : Hid (Row (w.alloc (.cells #[.slice a L.length c, .bool lines] 24)) w.heap.size [.slice a L.length c, .bool lines] 24) := Row.at w [.slice a L.length c, .bool lines] _
  have HB0 : Hid (Below w.heap.size w (w.alloc (.cells #[.slice a L.length c, .bool lines] 24))) := Grow.alloc w _
  have HP : Hid (∀ (b : Bool) w', (b = true ↔ isFew L str) → Below w.heap.size w w' → ∃ b' : Bool, Ending.returned (.bool b) = .returned (.bool b') ∧ (b' = true ↔ isFew L str) ∧ Below w.heap.size w w') := fun b w' h1 h2 => ⟨b, rfl, h1, h2⟩
  go_enter Try.func8, Try.ntmps8
  go_upto_region 1 with fail
  generalize w.alloc (.cells #[.slice a L.length c, .bool lines] 24) = w1 at *
  have q : w1.cell? ⟨w.heap.size, 0, none⟩ = some (.slice a L.length c) := HBX.out.cell 0
  rcases Nat.lt_or_ge 60 L.length with h1 | h1
  · have d1 : decide ((L.length : Int) ≤ 60) = false := by simp; omega
    go_wp2_with fail
    all_goals (try go_ret)
    all_goals exact HP.out false _ (by unfold isFew; simp; omega) HB0.out
  · have d1 : decide ((L.length : Int) ≤ 60) = true := by simp; omega
    rcases Nat.lt_or_ge 24 str.size with h2 | h2
    · have d2 : decide ((str.size : Int) ≤ 24) = false := by simp; omega
      go_wp2_with fail
      all_goals (try go_ret)
      all_goals exact HP.out false _ (by unfold isFew; simp; omega) HB0.out
    · have d2 : decide ((str.size : Int) ≤ 24) = true := by simp; omega
      go_wp2_with fail
      all_goals (try go_ret)
      all_goals exact HP.out true _ (by unfold isFew; simp; omega) HB0.out
set_option maxRecDepth 100000 in
set_option maxHeartbeats 4000000 in
theorem alternatives_any (w : World) : Calls Try.prog 19 #[] w fun e w' => ∃ cs, e = .returned (.agg cs.toArray) ∧ E11.In w' cs ∧ Below w.heap.size w w' := by
  have HR0 : Hid (Row (w.alloc (.cells #[.int .i64 0, .int .u64 0, .int .u64 0, .int .u64 0, .int .u64 0, .int .i64 0, .int .i64 0, .int .i64 0, .slice none 0 0] 55)) w.heap.size [.int .i64 0, .int .u64 0, .int .u64 0, .int .u64 0, .int .u64 0, .int .i64 0, .int .i64 0, .int .i64 0, .slice none 0 0] 55 ∧ Below w.heap.size w (w.alloc (.cells #[.int .i64 0, .int .u64 0, .int .u64 0, .int .u64 0, .int .u64 0, .int .i64 0, .int .i64 0, .int .i64 0, .slice none 0 0] 55))) := ⟨Row.new (cs := [.int .i64 0, .int .u64 0, .int .u64 0, .int .u64 0, .int .u64 0, .int .i64 0, .int .i64 0, .int .i64 0, .slice none 0 0]) rfl, (Below.refl _ w).alloc (Nat.le_refl _) _⟩
  have HZ0 : Hid (w.heap.size < (w.alloc (.cells #[.int .i64 0, .int .u64 0, .int .u64 0, .int .u64 0, .int .u64 0, .int .i64 0, .int .i64 0, .int .i64 0, .slice none 0 0] 55)).heap.size) := by show _ < _; simp
  have HPP : Hid (∀ cs w', E11.In w' cs → Below w.heap.size w w' → ∃ cs', Ending.returned (.agg cs.toArray) = .returned (.agg cs'.toArray) ∧ E11.In w' cs' ∧ Below w.heap.size w w') := fun cs w' h1 h2 => ⟨cs, rfl, h1, h2⟩
  go_enter Try.func19, Try.ntmps19
  go_upto_region 1 with fail
  generalize w.alloc (.cells #[.int .i64 0, .int .u64 0, .int .u64 0, .int .u64 0, .int .u64 0, .int .i64 0, .int .i64 0, .int .i64 0, .slice none 0 0] 55) = w0 at *
  generalize hb0 : w.heap.size = b0 at HR0 HZ0
  go_wp2_with fail
  refine (byte9_any 97 _).mono ?_
  rintro e w1 ⟨rfl, hb1⟩
  go_wp2_with fail
  refine (byte9_any 97 _).mono ?_
  rintro e w2 ⟨rfl, hb2⟩
  have HB2 : Hid (Below w0.heap.size w0 w2) := hb1.trans (hb2.mono hb1.size)
  clear hb1 hb2
  go_wp2_with fail
  refine (byte9_any 98 _).mono ?_
  rintro e w3 ⟨rfl, hb3⟩
  have HB3 : Hid (Below w0.heap.size w0 w3) := HB2.out.trans (hb3.mono HB2.out.size)
  clear hb3 HB2
  go_wp2_with fail
  refine (node9_any 3 _ _ _ _).mono ?_
  rintro e w4 ⟨rfl, hb4⟩
  have hr4 := (Row.new (w := w3) (B := w3.heap.size) (T := 55) (cs := [.int .i64 2, .int .u64 (Cs.of [97]).a, .int .u64 (Cs.of [97]).b, .int .u64 (Cs.of [97]).c, .int .u64 (Cs.of [97]).d, .int .i64 0, .int .i64 0, .int .i64 0, .slice none 0 0] ++ [.int .i64 2, .int .u64 (Cs.of [98]).a, .int .u64 (Cs.of [98]).b, .int .u64 (Cs.of [98]).c, .int .u64 (Cs.of [98]).d, .int .i64 0, .int .i64 0, .int .i64 0, .slice none 0 0]) rfl).below hb4 (by simp)
  have HT4 : Hid ((Re.mk (Pay.of 3) [byteRe 97, byteRe 98]).In w4 [.int .i64 3, .int .u64 0, .int .u64 0, .int .u64 0, .int .u64 0, .int .i64 0, .int .i64 0, .int .i64 0, .slice (some ⟨w3.heap.size, 0, none⟩) 2 2]) := node2_in (Pay.of_wf (I64_of (by omega))) hr4 (byte_in 97 w4) (byte_in 98 w4) rfl
  have HB4 : Hid (Below w0.heap.size w0 w4) := (HB3.out.alloc HB3.out.size _).trans (hb4.mono (by have := HB3.out.size; simp; omega))
  have HK4 := hid hr4
  have HB43 : Hid (w0.heap.size ≤ w3.heap.size) := HB3.out.size
  clear hb4 hr4 HB3
  generalize w3.heap.size = B3 at *
  go_wp2_with fail
  refine (node9_any 4 _ _ _ _).mono ?_
  rintro e w5 ⟨rfl, hb5⟩
  have hal := (Below.refl w4.heap.size w4).alloc (Nat.le_refl _) (.cells ([.int .i64 2, .int .u64 (Cs.of [97]).a, .int .u64 (Cs.of [97]).b, .int .u64 (Cs.of [97]).c, .int .u64 (Cs.of [97]).d, .int .i64 0, .int .i64 0, .int .i64 0, .slice none 0 0] ++ [.int .i64 3, .int .u64 0, .int .u64 0, .int .u64 0, .int .u64 0, .int .i64 0, .int .i64 0, .int .i64 0, .slice (some ⟨B3, 0, none⟩) 2 2] : List Value).toArray 55)
  have hr5 := (Row.new (w := w4) (B := w4.heap.size) (T := 55) (cs := [.int .i64 2, .int .u64 (Cs.of [97]).a, .int .u64 (Cs.of [97]).b, .int .u64 (Cs.of [97]).c, .int .u64 (Cs.of [97]).d, .int .i64 0, .int .i64 0, .int .i64 0, .slice none 0 0] ++ [.int .i64 3, .int .u64 0, .int .u64 0, .int .u64 0, .int .u64 0, .int .i64 0, .int .i64 0, .int .i64 0, .slice (some ⟨B3, 0, none⟩) 2 2]) rfl).below hb5 (by simp)
  have hb45 : Below w4.heap.size w4 w5 := hal.trans (hb5.mono (by simp))
  have HT5 : Hid (E11.In w5 [.int .i64 4, .int .u64 0, .int .u64 0, .int .u64 0, .int .u64 0, .int .i64 0, .int .i64 0, .int .i64 0, .slice (some ⟨w4.heap.size, 0, none⟩) 2 2]) := node2_in (Pay.of_wf (I64_of (by omega))) hr5 (byte_in 97 w5) (HT4.out.below hb45) rfl
  have HB5 : Hid (Below w0.heap.size w0 w5) := HB4.out.trans (hb45.mono HB4.out.size)
  have hz5 : w4.heap.size < w5.heap.size := hr5.lt
  have HZ5 : Hid (b0 < w4.heap.size) := Nat.lt_of_lt_of_le HZ0.out HB4.out.size
  have HK5 := hid hr5
  have HK45 := hid (HK4.out.below hb45 HK4.out.lt)
  have hBB : Hid (b0 < B3) := Nat.lt_of_lt_of_le HZ0.out HB43.out
  clear hb5 hal hr5 hb45 HT4 HB4
  generalize w4.heap.size = B4 at *
  have HR5 := hid (HR0.out.1.below HB5.out HZ0.out)
  have q5 := HR5.out.c9
  have z5 := HR5.out.lt
  go_wp2_with fail
  refine ret_row 0 55 rfl b0 rfl [.int .i64 4, .int .u64 0, .int .u64 0, .int .u64 0, .int .u64 0, .int .i64 0, .int .i64 0, .int .i64 0, .slice (some ⟨B4, 0, none⟩) 2 2] (CellsAt.of_row (T := 55) (HR5.out.set9 _ _ _ _ _ _ _ _ _)) _ Try.underlying55 rfl (size_relen rfl) rfl ?_
  have hne4 := HZ5.out
  have hne3 := hBB.out
  have hbut : But [b0] w5 (((((((((w5.setCell ⟨b0, 0, none⟩ (.int .i64 4)).setCell ⟨b0, 1, none⟩ (.int .u64 0)).setCell ⟨b0, 2, none⟩ (.int .u64 0)).setCell ⟨b0, 3, none⟩ (.int .u64 0)).setCell ⟨b0, 4, none⟩ (.int .u64 0)).setCell ⟨b0, 5, none⟩ (.int .i64 0)).setCell ⟨b0, 6, none⟩ (.int .i64 0)).setCell ⟨b0, 7, none⟩ (.int .i64 0)).setCell ⟨b0, 8, none⟩ (.slice (some ⟨B4, 0, none⟩) 2 2)) := (But.refl _ _).set9 (.inl (by simp)) _ _ _ _ _ _ _ _ _
  have hx4 := HK45.out.but hbut (by simp; omega)
  have hx5 := HK5.out.but hbut (by simp; omega)
  refine HPP.out [.int .i64 4, .int .u64 0, .int .u64 0, .int .u64 0, .int .u64 0, .int .i64 0, .int .i64 0, .int .i64 0, .slice (some ⟨B4, 0, none⟩) 2 2] _ ?_ ?_
  · exact node2_in (Pay.of_wf (I64_of (by omega))) hx5 (byte_in 97 _) (node2_in (Pay.of_wf (I64_of (by omega))) hx4 (byte_in 97 _) (byte_in 98 _) rfl) rfl
  · subst hb0
    exact below9 (HR0.out.2.trans (HB5.out.mono HR0.out.2.size)) (Nat.le_refl _) _ _ _ _ _ _ _ _ _
theorem Comp11_any (w : World) (cs : List Value) (h : E11.In w cs) : Calls Try.prog 18 #[.agg cs.toArray, .bool false] w fun e w' => ∃ (a : Option Addr) (c : Nat), e = .returned (.tuple #[.agg #[.slice a 6 c, .bool false], .int .i64 0]) ∧ InsAt w' a L6 ∧ Below w.heap.size w w' := by
  refine (CompileRef_any E11 false w cs h (by decide)).mono ?_
  rintro e w' ⟨a, n, c, rfl, h1, h2⟩
  have hn := h1.n
  rw [E11_comp] at hn h1
  have hn6 : n = 6 := hn
  subst hn6
  refine ⟨a, c, ?_, InsAt.of_own h1, h2⟩
  rw [E11_comp]
  rfl
theorem wf6 : ∀ k (h : k < L6.length), L6[k].set.wf := by
  intro k h
  have h6 : L6.length = 6 := rfl
  have hk : k = 0 ∨ k = 1 ∨ k = 2 ∨ k = 3 ∨ k = 4 ∨ k = 5 := by omega
  have hn : Cs.none.wf := ⟨by unfold W64; decide, by unfold W64; decide, by unfold W64; decide, by unfold W64; decide⟩
  rcases hk with rfl | rfl | rfl | rfl | rfl | rfl
  · exact hn
  · exact Cs.of_wf [97]
  · exact hn
  · exact Cs.of_wf [97]
  · exact Cs.of_wf [98]
  · exact hn
def s2 : ByteArray := ⟨#[97, 98]⟩
def s3 : ByteArray := ⟨#[120, 97, 98]⟩
theorem pre2 {w : World} {a : Option Addr} (h : InsAt w a L6) : Pre w m2 a s2 := ⟨h, wf6, rfl, by decide, by decide⟩
theorem pre3 {w : World} {a : Option Addr} (h : InsAt w a L6) : Pre w m3 a s3 := ⟨h, wf6, rfl, by decide, by decide⟩
theorem right6 : rightAll L6 := by
  have := Re.compiled_right (t := E11) (by rw [E11_comp])
  rw [E11_comp] at this
  exact this
set_option maxRecDepth 100000 in
set_option maxHeartbeats 4000000 in
theorem awake11_any (w : World) : Calls Try.prog 9 #[] w fun e w' => e = .returned (.bool true) ∧ Below w.heap.size w w' := by
  go_enter Try.func9, Try.ntmps9
  go_wp2_with fail
  refine (alternatives_any _).mono ?_
  rintro e w1 ⟨cs, rfl, hin, hb1⟩
  have HC := hid (Comp11_any w1 cs hin)
  have HB1 := hid hb1
  clear hin hb1
  go_wp2_with fail
  refine HC.out.mono ?_
  rintro e w2 ⟨a, c, rfl, hins, hb2⟩
  have HB2 := hid (HB1.out.trans (hb2.mono HB1.out.size))
  have HI2 := hid hins
  clear hins hb2 HC HB1
  have HR3 : Hid (Row (w2.alloc (.cells #[.slice a 6 c, .bool false] 24)) w2.heap.size [.slice a 6 c, .bool false] 24) := Row.at w2 [.slice a 6 c, .bool false] _
  have HAL : Hid (Below w2.heap.size w2 (w2.alloc (.cells #[.slice a 6 c, .bool false] 24))) := Grow.alloc w2 _
  have HI3 : Hid (InsAt (w2.alloc (.cells #[.slice a 6 c, .bool false] 24)) a L6) := HI2.out.below HAL.out (Nat.le_refl _)
  have HB3 := hid (HB2.out.trans (HAL.out.mono HB2.out.size))
  go_upto_region 2 with fail
  generalize w2.alloc (.cells #[.slice a 6 c, .bool false] 24) = w3 at *
  generalize w2.heap.size = pb at *
  have q3 : w3.cell? ⟨pb, 0, none⟩ = some (.slice a 6 c) ∧ w3.cell? ⟨pb, 1, none⟩ = some (.bool false) := ⟨HR3.out.cell 0, HR3.out.cell 1⟩
  have HLG : Hid (Calls Try.prog 15 #[.agg #[.slice a 6 c, .bool false], .string ⟨#[97, 98]⟩, .int .i64 0] w3 (LgPost m2 w3 0)) := Longest_any w3 m2 a c s2 0 (pre2 HI3.out)
  go_wp2_with fail
  refine HLG.out.mono ?_
  rintro e w4 ⟨hb4, hlg⟩
  have hlg2 : e = .returned (.tuple #[.int .i64 2, .bool true]) := by
    rcases hlg with ⟨h1, -⟩ | ⟨h1, f, b, h2, h3, h4, h5⟩
    · rcases h1 with h1 | h1 | h1
      · exact absurd right6 h1
      · omega
      · have h2 : (2 : Int) < 0 := h1
        omega
    · obtain rfl : f = 0 := by omega
      have e : b = some 2 := long_m2 h4
      subst e
      exact h5
  subst hlg2
  have HR4 := hid (HR3.out.below hb4 HR3.out.lt)
  have HI4 := hid (HI3.out.below hb4 (Nat.le_refl _))
  have HB4 := hid (HB3.out.trans (hb4.mono HB3.out.size))
  have q4 : w4.cell? ⟨pb, 0, none⟩ = some (.slice a 6 c) ∧ w4.cell? ⟨pb, 1, none⟩ = some (.bool false) := ⟨HR4.out.cell 0, HR4.out.cell 1⟩
  clear hb4 hlg q3 HLG
  have HTH : Hid (Calls Try.prog 13 #[.agg #[.slice a 6 c, .bool false], .string ⟨#[97, 98]⟩, .int .i64 0, .int .i64 1] w4 (ThPost m2 w4 0 1)) := Threads_any w4 m2 a c s2 0 1 (pre2 HI4.out)
  go_wp2_with fail
  refine HTH.out.mono ?_
  rintro e w5 ⟨hb5, v5, ts, rfl, hts, hown⟩
  have htl := th_m2 hts
  rw [htl] at hown
  obtain ⟨a5, c5, rfl⟩ := ownsRow_shape hown
  have HR5 := hid (HR4.out.below hb5 HR4.out.lt)
  have HI5 := hid (HI4.out.below hb5 (Nat.le_refl _))
  have HB5 := hid (HB4.out.trans (hb5.mono HB4.out.size))
  have q5 : w5.cell? ⟨pb, 0, none⟩ = some (.slice a 6 c) ∧ w5.cell? ⟨pb, 1, none⟩ = some (.bool false) := ⟨HR5.out.cell 0, HR5.out.cell 1⟩
  clear hb5 hts hown q4 HTH htl
  have HSR : Hid (Calls Try.prog 10 #[.agg #[.slice a 6 c, .bool false], .string ⟨#[120, 97, 98]⟩, .int .i64 0] w5 (SrPost m3 w5 0)) := Search_any w5 m3 a c s3 0 (pre3 HI5.out)
  go_wp2_with fail
  refine HSR.out.mono ?_
  rintro e w6 ⟨hb6, hsr⟩
  have hsr2 : e = .returned (.tuple #[.agg #[.int .i64 1, .int .i64 3], .bool true]) := by
    rcases hsr with ⟨h1, -⟩ | ⟨h1, f, b, h2, h3, h4, h5⟩
    · rcases h1 with h1 | h1 | h1
      · exact absurd right6 h1
      · omega
      · have h2 : (3 : Int) < 0 := h1
        omega
    · obtain rfl : f = 0 := by omega
      have e : b = some (1, 3) := best_m3 h4
      subst e
      exact h5
  subst hsr2
  have HB6 := hid (HB5.out.trans (hb6.mono HB5.out.size))
  clear hb6 hsr q5 HSR
  have HR7 : Hid (Row (w6.alloc (.cells #[.int .i64 1, .int .i64 3] 28)) w6.heap.size [.int .i64 1, .int .i64 3] 28) := Row.at w6 [.int .i64 1, .int .i64 3] _
  have HB7 : Hid (Below w.heap.size w (w6.alloc (.cells #[.int .i64 1, .int .i64 3] 28))) := HB6.out.alloc HB6.out.size _
  go_upto_region 5 with fail
  generalize w6.alloc (.cells #[.int .i64 1, .int .i64 3] 28) = w7 at *
  have q7 : w7.cell? ⟨w6.heap.size, 0, none⟩ = some (.int .i64 1) ∧ w7.cell? ⟨w6.heap.size, 1, none⟩ = some (.int .i64 3) := ⟨HR7.out.cell 0, HR7.out.cell 1⟩
  go_wp2_with fail
  all_goals (try go_ret)
  all_goals exact ⟨rfl, HB7.out⟩
end Go.Proofs.Ytnjcfggadeakpaa

/- The reference's simulation: anchored, next. -/
namespace Go.Proofs.Ytnjcfggadeakpaa
open Go.RowKit
attribute [local go_sem] gives givesUpon

/-- What anchored answers. -/
def Sim.anch (m : Sim) (op : Int) (i : Nat) : Bool := if op = 4 then m.begins i else m.ends i
set_option maxHeartbeats 2000000 in
theorem anchored_any (w : World) (m : Sim) (a : Option Addr) (n c : Nat) (str : ByteArray) (op : Int) (i : Nat) (hs : m.s = str.data.toList) (hi : i ≤ str.size) (hl : str.size ≤ 1000000) :
    Calls Try.prog 80 #[.agg #[.slice a n c, .bool m.lines], .int .i64 op, .string str, .int .i64 i] w fun e w' => e = .returned (.bool (m.anch op i)) ∧ Below w.heap.size w w' := by
  have HBX : Hid (Row (w.alloc (.cells #[.slice a n c, .bool m.lines] 24)) w.heap.size [.slice a n c, .bool m.lines] 24) := Row.at w [.slice a n c, .bool m.lines] _
  have HB0 : Hid (Below w.heap.size w (w.alloc (.cells #[.slice a n c, .bool m.lines] 24))) := Grow.alloc w _
  have HV : Hid (m.anch op i = if op = 4 then (i == 0 || (m.lines && (m.byte (i - 1) == 10))) else (i == str.size || (m.lines && (m.byte i == 10)))) := by
    show _ = _
    unfold Sim.anch Sim.begins Sim.ends
    rw [size_eq hs]
  have HB : Hid (0 < i → m.byte (i - 1) = (str[i - 1]!).toNat) := by
    intro h0
    rw [byte_eq hs (by omega)]
    congr 1
    rw [getElem!_pos str (i - 1) (by omega)]
  have HC : Hid (∀ h : i < str.size, m.byte i = (str[i]).toNat) := fun h => byte_eq hs h
  generalize m.anch op i = ans at *
  generalize m.lines = lines at *
  by_cases hop : op = 4
  · subst hop
    rcases Nat.eq_zero_or_pos i with rfl | h0
    · have ea : ans = true := by rw [HV.out]; rfl
      subst ea
      go_enter Try.func80, Try.ntmps80
      go_upto_region 1 with fail
      generalize w.alloc (.cells #[.slice a n c, .bool lines] 24) = w1 at *
      go_wp2_with fail
      all_goals go_ret
      all_goals exact ⟨rfl, HB0.out⟩
    · have d0 : ((i : Int) == 0) = false := by simp; omega
      have d1 : (i == 0) = false := by simp; omega
      have ea : ans = (lines && (m.byte (i - 1) == 10)) := by rw [HV.out, if_pos rfl, d1]; rfl
      rw [HB.out h0] at ea
      obtain ⟨j, rfl⟩ : ∃ j, i = j + 1 := ⟨i - 1, by omega⟩
      rw [show j + 1 - 1 = j from rfl, getElem!_pos str j (by omega)] at ea
      have HA := hid ea
      clear HV HB HC ea
      have hj : (j : Int) < str.size := by omega
      go_enter Try.func80, Try.ntmps80
      go_upto_region 1 with fail
      generalize w.alloc (.cells #[.slice a n c, .bool lines] 24) = w1 at *
      have q := HBX.out.cell 1
      have q1 : w1.cell? ⟨w.heap.size, 1, none⟩ = some (.bool lines) := q
      clear q
      generalize w.heap.size = b0 at q1
      rcases Bool.eq_false_or_eq_true lines with rfl | rfl
      · go_wp2_with fail
        all_goals go_ret
        all_goals
          refine ⟨ret_bool ?_, HB0.out⟩
          rw [HA.out]
          exact Bool.eq_iff_iff.2 (by simp; omega)
      · go_wp2_with fail
        all_goals go_ret
        all_goals
          refine ⟨ret_bool ?_, HB0.out⟩
          rw [HA.out]
          rfl
  · have dop : (op == 4) = false := by simpa using hop
    rcases Nat.lt_or_ge i str.size with h0 | h0
    · have d0 : ((i : Int) == (str.size : Int)) = false := by simp; omega
      have d1 : (i == str.size) = false := by simp; omega
      have ea : ans = (lines && (m.byte i == 10)) := by rw [HV.out, if_neg hop, d1]; rfl
      rw [HC.out h0] at ea
      have HA := hid ea
      clear HV HB HC ea
      have hj : (i : Int) < str.size := by omega
      go_enter Try.func80, Try.ntmps80
      go_upto_region 1 with fail
      generalize w.alloc (.cells #[.slice a n c, .bool lines] 24) = w1 at *
      have q1 : w1.cell? ⟨w.heap.size, 1, none⟩ = some (.bool lines) := HBX.out.cell 1
      generalize w.heap.size = b0 at q1
      rcases Bool.eq_false_or_eq_true lines with rfl | rfl
      · go_wp2_with fail
        all_goals go_ret
        all_goals
          refine ⟨ret_bool ?_, HB0.out⟩
          rw [HA.out]
          exact Bool.eq_iff_iff.2 (by simp; omega)
      · go_wp2_with fail
        all_goals go_ret
        all_goals
          refine ⟨ret_bool ?_, HB0.out⟩
          rw [HA.out]
          rfl
    · obtain rfl : i = str.size := by omega
      have ea : ans = true := by rw [HV.out, if_neg hop]; simp
      subst ea
      go_enter Try.func80, Try.ntmps80
      go_upto_region 1 with fail
      generalize w.alloc (.cells #[.slice a n c, .bool lines] 24) = w1 at *
      go_wp2_with fail
      all_goals go_ret
      all_goals exact ⟨rfl, HB0.out⟩
/-- The reference's order of the steps without a byte. -/
def Sim.reps (m : Sim) (i k : Nat) : List Nat :=
  if (m.inst k).op = 3 then [(m.inst k).x.toNat] else if (m.inst k).op = 2 then [(m.inst k).x.toNat, (m.inst k).y.toNat] else
  if (m.inst k).op = 4 then (if m.begins i = true then [k + 1] else []) else if (m.inst k).op = 5 then (if m.ends i = true then [k + 1] else []) else []
theorem Sim.mem_reps {m : Sim} {i k j : Nat} : j ∈ m.reps i k ↔ j ∈ m.eps i k := by
  unfold Sim.reps Sim.eps
  split
  · exact Iff.rfl
  split
  · simp only [List.mem_cons, List.mem_nil_iff, or_false]
    exact or_comm
  · exact Iff.rfl
theorem Row.owns {w : World} {B base n : Nat} {cs : List Value} {T : TypeId} (h : Row w B cs T) (hb : base ≤ B) (hl : cs.length = n) (hm : n ≤ maxLen) : w.ownsRow base T 1 (.slice (some ⟨B, 0, none⟩) n n) n cs :=
  ⟨by omega, .inr ⟨B, n, cs.toArray, rfl, hb, h, Nat.le_refl _, hm, by rw [Nat.mul_one]; simpa using hl, by rw [Nat.mul_one, ← hl]; simp⟩⟩
def natsV (L : List Nat) : List Value := L.map fun (k : Nat) => .int .i64 k
set_option maxRecDepth 100000 in
set_option maxHeartbeats 8000000 in
theorem next_ref_any (w : World) (m : Sim) (a : Option Addr) (c : Nat) (str : ByteArray) (i k : Nat) (h : InsAt w a m.L) (hR : rightAll m.L) (hk : k < m.L.length) (hs : m.s = str.data.toList) (hi : i ≤ str.size) (hl : str.size ≤ 1000000) :
    Calls Try.prog 66 #[.agg #[.slice a m.L.length c, .bool m.lines], .string str, .int .i64 i, .int .i64 k] w fun e w' => ∃ v, e = .returned v ∧ w'.ownsRow w.heap.size 3 1 v (m.reps i k).length (natsV (m.reps i k)) ∧ Below w.heap.size w w' := by
  have HBX : Hid (Row (w.alloc (.cells #[.slice a m.L.length c, .bool m.lines] 24)) w.heap.size [.slice a m.L.length c, .bool m.lines] 24) := Row.at w [.slice a m.L.length c, .bool m.lines] _
  have HB0 : Hid (Below w.heap.size w (w.alloc (.cells #[.slice a m.L.length c, .bool m.lines] 24))) := Grow.alloc w _
  obtain ⟨fb, fo, hfa, hfb, hfc⟩ := h.at hk
  subst hfa
  have hri := Sim.right_of hR hk
  have hkn := hR.1.2
  have HP : Hid (∀ v w' X, w'.ownsRow w.heap.size 3 1 v X.length (natsV X) → Below w.heap.size w w' → m.reps i k = X → ∃ v', Ending.returned v = .returned v' ∧ w'.ownsRow w.heap.size 3 1 v' (m.reps i k).length (natsV (m.reps i k)) ∧ Below w.heap.size w w') := fun v w' X h1 h2 h3 => ⟨v, rfl, by rw [h3]; exact h1, h2⟩
  have HAN := hid (fun (x : World) (op : Int) => anchored_any x m (some ⟨fb, fo, none⟩) m.L.length c str op i hs hi hl)
  have HRE : Hid (m.reps i k = if (m.inst k).op = 3 then [(m.inst k).x.toNat] else if (m.inst k).op = 2 then [(m.inst k).x.toNat, (m.inst k).y.toNat] else
    if (m.inst k).op = 4 then (if m.begins i = true then [k + 1] else []) else if (m.inst k).op = 5 then (if m.ends i = true then [k + 1] else []) else []) := rfl
  generalize m.reps i k = rp at *
  have hfi := Sim.inst_eq hk
  rw [hfi] at hri HRE
  have HCS := hid hfc
  have hfl : m.L[k]? = some m.L[k] := List.getElem?_eq_getElem hk
  generalize m.L[k] = ff at *
  obtain ⟨fop, fset, fx, fy⟩ := ff
  have HF2 : Hid (CellsAt w fb (fo + k * 7) [.int .i64 fop, .int .u64 fset.a, .int .u64 fset.b, .int .u64 fset.c, .int .u64 fset.d, .int .i64 fx, .int .i64 fy]) := HCS.out
  clear hfi h hR hfc HCS hfl
  simp only [Inst.right] at hri HRE
  go_enter Try.func66, Try.ntmps66
  go_upto_region 1 with fail
  generalize w.alloc (.cells #[.slice (some ⟨fb, fo, none⟩) m.L.length c, .bool m.lines] 24) = w1 at *
  have q : w1.cell? ⟨w.heap.size, 0, none⟩ = some (.slice (some ⟨fb, fo, none⟩) m.L.length c) ∧ w1.cell? ⟨w.heap.size, 1, none⟩ = some (.bool m.lines) := ⟨HBX.out.cell 0, HBX.out.cell 1⟩
  have qf := cells7 (show CellsAt w1 fb (fo + k * 7) [.int .i64 fop, .int .u64 fset.a, .int .u64 fset.b, .int .u64 fset.c, .int .u64 fset.d, .int .i64 fx, .int .i64 fy] from fun j v hj => by
    rw [HB0.out.cell (p := ⟨fb, fo + k * 7 + j, none⟩) hfb]
    exact HF2.out j v hj)
  have hkI : (k : Int) < (m.L.length : Int) := by omega
  have HBL := hid HBX.out.lt
  have hbn : w.heap.size ≤ w1.heap.size := HB0.out.size
  have HG : Hid (Below w1.heap.size w1 (w1.alloc (.cells #[.int .i64 fop, .int .u64 fset.a, .int .u64 fset.b, .int .u64 fset.c, .int .u64 fset.d, .int .i64 fx, .int .i64 fy] 43)) ∧ Row (w1.alloc (.cells #[.int .i64 fop, .int .u64 fset.a, .int .u64 fset.b, .int .u64 fset.c, .int .u64 fset.d, .int .i64 fx, .int .i64 fy] 43)) w1.heap.size [.int .i64 fop, .int .u64 fset.a, .int .u64 fset.b, .int .u64 fset.c, .int .u64 fset.d, .int .i64 fx, .int .i64 fy] 43) := ⟨Grow.alloc w1 _, Row.at w1 [.int .i64 fop, .int .u64 fset.a, .int .u64 fset.b, .int .u64 fset.c, .int .u64 fset.d, .int .i64 fx, .int .i64 fy] _⟩
  go_upto_region 2 with fail
  generalize w1.alloc (.cells #[.int .i64 fop, .int .u64 fset.a, .int .u64 fset.b, .int .u64 fset.c, .int .u64 fset.d, .int .i64 fx, .int .i64 fy] 43) = y at *
  have HBX2 := hid (HBX.out.below HG.out.1 HBL.out)
  have HBY := hid (HB0.out.trans (HG.out.1.mono hbn))
  have HRI := hid HG.out.2
  have q2 : y.cell? ⟨w.heap.size, 0, none⟩ = some (.slice (some ⟨fb, fo, none⟩) m.L.length c) ∧ y.cell? ⟨w.heap.size, 1, none⟩ = some (.bool m.lines) := ⟨HBX2.out.cell 0, HBX2.out.cell 1⟩
  have qi := row7 HRI.out
  have hzy : w.heap.size ≤ y.heap.size := HBY.out.size
  clear q qf HG HF2
  generalize hbw : w.heap.size = b0 at *
  generalize w1.heap.size = bi at *
  by_cases h3 : fop = 3
  · subst h3
    have HX : Hid (rp = [fx.toNat]) := by show _ = _; rw [HRE.out, if_pos rfl]
    have hx : fx = (fx.toNat : Int) := by omega
    generalize fx.toNat = xn at *
    subst hx
    clear HRE
    go_wp2_with fail
    all_goals go_ret
    all_goals subst hbw
    all_goals exact HP.out _ _ [xn] ((Row.at y [.int .i64 xn] 3).owns hzy rfl (by decide)) (HBY.out.alloc hzy _) HX.out
  have d3 : (fop == 3) = false := by simpa using h3
  by_cases h2 : fop = 2
  · subst h2
    have HX : Hid (rp = [fx.toNat, fy.toNat]) := by show _ = _; rw [HRE.out, if_neg h3, if_pos rfl]
    have hx : fx = (fx.toNat : Int) := by omega
    have hy : fy = (fy.toNat : Int) := by omega
    generalize fx.toNat = xn at *
    generalize fy.toNat = yn at *
    subst hx hy
    clear HRE
    go_wp2_with fail
    all_goals go_ret
    all_goals subst hbw
    all_goals exact HP.out _ _ [xn, yn] ((Row.at y [.int .i64 xn, .int .i64 yn] 3).owns hzy rfl (by decide)) (HBY.out.alloc hzy _) HX.out
  have d2 : (fop == 2) = false := by simpa using h2
  by_cases h45 : fop = 4 ∨ fop = 5
  · have HX : Hid (rp = if m.anch fop i = true then [k + 1] else []) := by
      show _ = _
      rw [HRE.out, if_neg h3, if_neg h2]
      unfold Sim.anch
      rcases h45 with h | h
      · rw [if_pos h, if_pos h]
      · have h4 : ¬ fop = 4 := by omega
        rw [if_neg h4, if_pos h, if_neg h4]
    have HA := hid (HAN.out y fop)
    clear HRE HAN
    generalize m.anch fop i = an at *
    have hz : Hid (∀ y', Below y.heap.size y y' → Below b0 w y' ∧ b0 ≤ y'.heap.size) := fun y' hb => ⟨HBY.out.trans (hb.mono hzy), Nat.le_trans hzy hb.size⟩
    rcases Bool.eq_false_or_eq_true an with rfl | rfl
    · have HY : Hid (rp = [k + 1]) := HX.out.trans (if_pos rfl)
      clear HX
      rcases h45 with rfl | rfl
      all_goals
        go_wp2_with fail
        refine HA.out.mono ?_
        rintro e y2 ⟨rfl, hb2⟩
        have HZ := hid (hz.out y2 hb2)
        clear hb2 HA
        go_wp2_with fail
        all_goals go_ret
        all_goals subst hbw
        all_goals exact HP.out _ _ [k + 1] ((Row.at y2 [.int .i64 (k + 1 : Nat)] 3).owns HZ.out.2 rfl (by decide)) (HZ.out.1.alloc HZ.out.2 _) HY.out
    · have HY : Hid (rp = []) := HX.out.trans (if_neg (by decide))
      clear HX
      rcases h45 with rfl | rfl
      all_goals
        go_wp2_with fail
        refine HA.out.mono ?_
        rintro e y2 ⟨rfl, hb2⟩
        have HZ := hid (hz.out y2 hb2)
        clear hb2 HA
        go_wp2_with fail
        all_goals go_ret
        all_goals subst hbw
        all_goals exact HP.out _ _ [] (World.ownsRow_nil _ _ _ _) HZ.out.1 HY.out
  have d4 : (fop == 4) = false := by simp; omega
  have d5 : (fop == 5) = false := by simp; omega
  have HX : Hid (rp = []) := by show _ = _; rw [HRE.out, if_neg h3, if_neg h2, if_neg (by omega), if_neg (by omega)]
  clear HRE HAN
  go_wp2_with fail
  all_goals go_ret
  all_goals subst hbw
  all_goals exact HP.out _ _ [] (World.ownsRow_nil _ _ _ _) HBY.out HX.out
end Go.Proofs.Ytnjcfggadeakpaa
