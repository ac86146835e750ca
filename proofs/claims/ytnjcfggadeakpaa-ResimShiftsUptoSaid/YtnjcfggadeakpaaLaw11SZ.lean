/- The laws ResimSearches and ResimThreads: their walks answer true. -/
import Derived.Test.YtnjcfggadeakpaaG29
import Derived.Test.YtnjcfggadeakpaaG34
namespace Go.Proofs.Ytnjcfggadeakpaa
open Go.RowKit
attribute [local go_sem] gives givesUpon

/-- What Search finds. -/
def SrIs (m : Sim) (at_ : Int) (b : Option (Nat × Nat)) : Prop := ((¬ rightAll m.L ∨ at_ < 0 ∨ (m.s.length : Int) < at_) ∧ b = none) ∨ (rightAll m.L ∧ ∃ f : Nat, at_ = f ∧ f ≤ m.s.length ∧ Best m f (m.s.length + 1) b)
theorem SrPost.val {m : Sim} {w w' : World} {at_ : Int} {e : Ending} (h : SrPost m w at_ e w') : Below w.heap.size w w' ∧ ∃ b, SrIs m at_ b ∧ e = .returned (.tuple #[.agg #[.int .i64 (b.getD (0, 0)).1, .int .i64 (b.getD (0, 0)).2], .bool b.isSome]) := by
  obtain ⟨h1, ⟨h2, h3⟩ | ⟨h2, f, b, h3, h4, h5, h6⟩⟩ := h
  · exact ⟨h1, none, .inl ⟨h2, rfl⟩, h3⟩
  · exact ⟨h1, b, .inr ⟨h2, f, h3, h4, h5⟩, h6⟩
theorem SrIs.unique {m : Sim} {at_ : Int} {b b' : Option (Nat × Nat)} (h : SrIs m at_ b) (h' : SrIs m at_ b') : b = b' := by
  rcases h with ⟨h1, rfl⟩ | ⟨h1, f, h2, h3, h4⟩ <;> rcases h' with ⟨k1, rfl⟩ | ⟨k1, g, k2, k3, k4⟩
  · rfl
  · rcases h1 with h1 | h1 | h1
    · exact absurd k1 h1
    · omega
    · omega
  · rcases k1 with k1 | k1 | k1
    · exact absurd h1 k1
    · omega
    · omega
  · obtain rfl : f = g := by omega
    exact h4.unique k4
/-- What Longest finds. -/
def LgIs (m : Sim) (at_ : Int) (b : Option Nat) : Prop := ((¬ rightAll m.L ∨ at_ < 0 ∨ (m.s.length : Int) < at_) ∧ b = none) ∨ (rightAll m.L ∧ ∃ f : Nat, at_ = f ∧ f ≤ m.s.length ∧ Long m f (m.s.length + 1) b)
theorem LgPost.val {m : Sim} {w w' : World} {at_ : Int} {e : Ending} (h : LgPost m w at_ e w') : Below w.heap.size w w' ∧ ∃ b, LgIs m at_ b ∧ e = .returned (.tuple #[.int .i64 (b.getD 0 : Nat), .bool b.isSome]) := by
  obtain ⟨h1, ⟨h2, h3⟩ | ⟨h2, f, b, h3, h4, h5, h6⟩⟩ := h
  · exact ⟨h1, none, .inl ⟨h2, rfl⟩, h3⟩
  · exact ⟨h1, b, .inr ⟨h2, f, h3, h4, h5⟩, h6⟩
/-- A given program and string that are few. -/
theorem Pre.of {w : World} {a : Option Addr} {L : List Inst} {lines : Bool} {str : ByteArray} (h : InsAt w a L) (hf : ∀ k (h : k < L.length), L[k].set.wf) (hw : isFew L str) : Pre w ⟨L, lines, str.data.toList⟩ a str :=
  ⟨h, hf, rfl, by have := hw.2; omega, by have := hw.1; show L.length ≤ _; omega⟩
set_option maxRecDepth 100000 in
set_option maxHeartbeats 4000000 in
theorem LawSearches_any (w : World) (a : Option Addr) (c : Nat) (L : List Inst) (lines : Bool) (str : ByteArray) (at_ : Int) (h : InsAt w a L) (hf : ∀ k (h : k < L.length), L[k].set.wf) (hL : L.length ≤ 1048576) (hs : str.size ≤ 1048576) :
    Calls Try.prog 3 #[.agg #[.slice a L.length c, .bool lines], .string str, .int .i64 at_] w fun e w' => e = .returned (.bool true) ∧ Below w.heap.size w w' := by
  have HBX : Hid (Row (w.alloc (.cells #[.slice a L.length c, .bool lines] 24)) w.heap.size [.slice a L.length c, .bool lines] 24) := Row.at w [.slice a L.length c, .bool lines] _
  have HB0 : Hid (Below w.heap.size w (w.alloc (.cells #[.slice a L.length c, .bool lines] 24))) := Grow.alloc w _
  have HI1 : Hid (InsAt (w.alloc (.cells #[.slice a L.length c, .bool lines] 24)) a L) := h.below HB0.out (Nat.le_refl _)
  have HF := hid hf
  have HFW := hid (few11_any (w.alloc (.cells #[.slice a L.length c, .bool lines] 24)) a c L lines str hL hs)
  clear h hf
  go_enter Try.func3, Try.ntmps3
  go_upto_region 1 with fail
  generalize w.alloc (.cells #[.slice a L.length c, .bool lines] 24) = w1 at *
  have q1 : w1.cell? ⟨w.heap.size, 0, none⟩ = some (.slice a L.length c) ∧ w1.cell? ⟨w.heap.size, 1, none⟩ = some (.bool lines) := ⟨HBX.out.cell 0, HBX.out.cell 1⟩
  generalize hb0 : w.heap.size = b0 at q1 HBX
  go_wp2_with fail
  refine HFW.out.mono ?_
  rintro e w2 ⟨b, rfl, hb, hb2⟩
  have HBX2 := hid (HBX.out.below hb2 HBX.out.lt)
  have HI2 := hid (HI1.out.below hb2 (Nat.le_refl _))
  have HB2 := hid (HB0.out.trans (hb2.mono HB0.out.size))
  have q2 : w2.cell? ⟨b0, 0, none⟩ = some (.slice a L.length c) ∧ w2.cell? ⟨b0, 1, none⟩ = some (.bool lines) := ⟨HBX2.out.cell 0, HBX2.out.cell 1⟩
  clear hb2 q1 HFW
  cases b with
  | false =>
    clear hb
    go_wp2_with fail
    refine (awake11_any _).mono ?_
    rintro e w5 ⟨rfl, hb5⟩
    have HB5 := hid (HB2.out.trans (hb5.mono HB2.out.size))
    clear hb5
    go_wp2_with fail
    all_goals (try go_ret)
    all_goals exact ⟨rfl, HB5.out⟩
  | true =>
    have HFE : Hid (isFew L str) := hb.1 rfl
    clear hb
    have HS := hid (Search_any w2 ⟨L, lines, str.data.toList⟩ a c str at_ (Pre.of HI2.out HF.out HFE.out))
    go_wp2_with fail
    refine HS.out.mono ?_
    intro e w3 h3
    obtain ⟨hb3, bs, hbs, rfl⟩ := h3.val
    have HBS := hid hbs
    have HBX3 := hid (HBX2.out.below hb3 HBX2.out.lt)
    have HI3 := hid (HI2.out.below hb3 (Nat.le_refl _))
    have HB3 := hid (HB2.out.trans (hb3.mono HB2.out.size))
    clear hb3 h3 hbs HS q2
    have HR4 : Hid (Row (w3.alloc (.cells #[.int .i64 (bs.getD (0, 0)).1, .int .i64 (bs.getD (0, 0)).2] 28)) w3.heap.size [.int .i64 (bs.getD (0, 0)).1, .int .i64 (bs.getD (0, 0)).2] 28) := Row.at w3 [.int .i64 (bs.getD (0, 0)).1, .int .i64 (bs.getD (0, 0)).2] _
    have HA4 : Hid (Below w3.heap.size w3 (w3.alloc (.cells #[.int .i64 (bs.getD (0, 0)).1, .int .i64 (bs.getD (0, 0)).2] 28))) := Grow.alloc w3 _
    go_upto_region 4 with fail
    generalize w3.alloc (.cells #[.int .i64 (bs.getD (0, 0)).1, .int .i64 (bs.getD (0, 0)).2] 28) = w4 at *
    have HBX4 := hid (HBX3.out.below HA4.out HBX3.out.lt)
    have HI4 := hid (HI3.out.below HA4.out (Nat.le_refl _))
    have HB4 := hid (HB3.out.trans (HA4.out.mono HB3.out.size))
    have q4 : w4.cell? ⟨b0, 0, none⟩ = some (.slice a L.length c) ∧ w4.cell? ⟨b0, 1, none⟩ = some (.bool lines) := ⟨HBX4.out.cell 0, HBX4.out.cell 1⟩
    generalize w3.heap.size = p1 at *
    have HS2 := hid (SearchR_any w4 ⟨L, lines, str.data.toList⟩ a c str at_ (Pre.of HI4.out HF.out HFE.out))
    go_wp2_with fail
    refine HS2.out.mono ?_
    intro e w5 h5
    obtain ⟨hb5, bs', hbs', rfl⟩ := h5.val
    obtain rfl : bs = bs' := HBS.out.unique hbs'
    have HR5 := hid (HR4.out.below hb5 HR4.out.lt)
    have HB5 := hid (HB4.out.trans (hb5.mono HB4.out.size))
    clear hb5 h5 hbs' HS2 q4 HBS
    generalize (bs.getD (0, 0)).1 = x1 at *
    generalize (bs.getD (0, 0)).2 = x2 at *
    generalize bs.isSome = x3 at *
    have HR6 : Hid (Row (w5.alloc (.cells #[.int .i64 x1, .int .i64 x2] 28)) w5.heap.size [.int .i64 x1, .int .i64 x2] 28) := Row.at w5 [.int .i64 x1, .int .i64 x2] _
    have HA6 : Hid (Below w5.heap.size w5 (w5.alloc (.cells #[.int .i64 x1, .int .i64 x2] 28))) := Grow.alloc w5 _
    go_upto_region 5 with fail
    generalize w5.alloc (.cells #[.int .i64 x1, .int .i64 x2] 28) = w6 at *
    have HR56 := hid (HR5.out.below HA6.out HR5.out.lt)
    have HB6 := hid (HB5.out.trans (HA6.out.mono HB5.out.size))
    generalize w5.heap.size = p2 at *
    have q6 : w6.cell? ⟨p1, 0, none⟩ = some (.int .i64 x1) ∧ w6.cell? ⟨p1, 1, none⟩ = some (.int .i64 x2) := ⟨HR56.out.cell 0, HR56.out.cell 1⟩
    have q7 : w6.cell? ⟨p2, 0, none⟩ = some (.int .i64 x1) ∧ w6.cell? ⟨p2, 1, none⟩ = some (.int .i64 x2) := ⟨HR6.out.cell 0, HR6.out.cell 1⟩
    go_wp2_with fail
    refine (awake11_any _).mono ?_
    rintro e w7 ⟨rfl, hb7⟩
    have HB7 := hid (HB6.out.trans (hb7.mono HB6.out.size))
    clear hb7
    go_wp2_with fail
    all_goals (try go_ret)
    all_goals exact ⟨rfl, HB7.out⟩
/-- A value that Threads returned. -/
def ThV (m : Sim) (at_ d : Int) (v : Value) (y : World) : Prop := ∃ (base : Nat) (ts : List Nat), IsTh m at_ d ts ∧ y.ownsRow base 3 1 v ts.length (ts.map natV)
theorem ThV.grow {m : Sim} {at_ d : Int} {v : Value} {x y : World} (h : ThV m at_ d v x) (hR : Grow x y) : ThV m at_ d v y := by
  obtain ⟨base, ts, h1, h2⟩ := h
  exact ⟨base, ts, h1, ownsRow_heap h2 fun g hg => hR.block g (h2.lt g hg).2⟩
set_option maxRecDepth 100000 in
set_option maxHeartbeats 8000000 in
theorem LawThreads_any (w : World) (a : Option Addr) (c : Nat) (L : List Inst) (lines : Bool) (str : ByteArray) (at_ d : Int) (h : InsAt w a L) (hf : ∀ k (h : k < L.length), L[k].set.wf) (hL : L.length ≤ 1048576) (hs : str.size ≤ 1048576) :
    Calls Try.prog 4 #[.agg #[.slice a L.length c, .bool lines], .agg #[.string str, .int .i64 at_, .int .i64 d]] w fun e w' => e = .returned (.bool true) ∧ Below w.heap.size w w' := by
  have HBX : Hid (Row ((w.alloc (.cells #[.slice a L.length c, .bool lines] 24)).alloc (.cells #[.string str, .int .i64 at_, .int .i64 d] 33)) w.heap.size [.slice a L.length c, .bool lines] 24) := (Row.at w [.slice a L.length c, .bool lines] _).below (Grow.alloc _ _) (by simp)
  have HPX : Hid (Row ((w.alloc (.cells #[.slice a L.length c, .bool lines] 24)).alloc (.cells #[.string str, .int .i64 at_, .int .i64 d] 33)) (w.heap.size + 1) [.string str, .int .i64 at_, .int .i64 d] 33) := Row.new (by simp)
  have HB0 : Hid (Below w.heap.size w ((w.alloc (.cells #[.slice a L.length c, .bool lines] 24)).alloc (.cells #[.string str, .int .i64 at_, .int .i64 d] 33))) := (Grow.alloc w _).trans (Grow.alloc _ _)
  have HI1 : Hid (InsAt ((w.alloc (.cells #[.slice a L.length c, .bool lines] 24)).alloc (.cells #[.string str, .int .i64 at_, .int .i64 d] 33)) a L) := h.below HB0.out (Nat.le_refl _)
  have HF := hid hf
  have HFW := hid (few11_any ((w.alloc (.cells #[.slice a L.length c, .bool lines] 24)).alloc (.cells #[.string str, .int .i64 at_, .int .i64 d] 33)) a c L lines str hL hs)
  clear h hf
  go_enter Try.func4, Try.ntmps4
  go_upto_region 1 with fail
  generalize (w.alloc (.cells #[.slice a L.length c, .bool lines] 24)).alloc (.cells #[.string str, .int .i64 at_, .int .i64 d] 33) = w1 at *
  generalize hb1 : w.heap.size + 1 = b1 at HPX
  generalize hb0 : w.heap.size = b0 at HBX
  have q1 : w1.cell? ⟨b0, 0, none⟩ = some (.slice a L.length c) ∧ w1.cell? ⟨b0, 1, none⟩ = some (.bool lines) := ⟨HBX.out.cell 0, HBX.out.cell 1⟩
  have q1p : w1.cell? ⟨b1, 0, none⟩ = some (.string str) := HPX.out.cell 0
  go_wp2_with fail
  refine HFW.out.mono ?_
  rintro e w2 ⟨b, rfl, hb, hb2⟩
  have HBX2 := hid (HBX.out.below hb2 HBX.out.lt)
  have HPX2 := hid (HPX.out.below hb2 HPX.out.lt)
  have HI2 := hid (HI1.out.below hb2 (Nat.le_refl _))
  have HB2 := hid (HB0.out.trans (hb2.mono HB0.out.size))
  clear hb2 q1 q1p HFW
  cases b with
  | false =>
    clear hb
    go_wp2_with fail
    refine (awake11_any _).mono ?_
    rintro e w5 ⟨rfl, hb5⟩
    have HB5 := hid (HB2.out.trans (hb5.mono HB2.out.size))
    clear hb5
    go_wp2_with fail
    all_goals (try go_ret)
    all_goals exact ⟨rfl, HB5.out⟩
  | true =>
    have HFE : Hid (isFew L str) := hb.1 rfl
    clear hb
    go_upto_region 3 with fail
    have HPP := hid (fun (x : World) (hx : Grow w2.drew x) => (show Pre x ⟨L, lines, str.data.toList⟩ a str from Pre.of (HI2.out.below (show Below w2.heap.size w2 x from ⟨hx.os, hx.tape, hx.output, hx.size, hx.block⟩) (Nat.le_refl _)) HF.out HFE.out))
    have HC := hid (fun (x : World) (hx : Grow w2.drew x) => (show (x.cell? ⟨b0, 0, none⟩ = some (.slice a L.length c) ∧ x.cell? ⟨b0, 1, none⟩ = some (.bool lines)) ∧ x.cell? ⟨b1, 0, none⟩ = some (.string str) ∧ x.cell? ⟨b1, 1, none⟩ = some (.int .i64 at_) ∧ x.cell? ⟨b1, 2, none⟩ = some (.int .i64 d) from by
      have hb : Below w2.heap.size w2 x := ⟨hx.os, hx.tape, hx.output, hx.size, hx.block⟩
      have h1 := HBX2.out.below hb HBX2.out.lt
      have h2 := HPX2.out.below hb HPX2.out.lt
      exact ⟨⟨h1.cell 0, h1.cell 1⟩, h2.cell 0, h2.cell 1, h2.cell 2⟩))
    refine wp_region_inv 21 (Grow) (by kernel_rfl) (by kernel_rfl) (Grow.refl) (fun _ _ _ => Grow.trans) ?_
    simp only [fill, dstOf, Act.put, List.take_succ_cons, List.take_zero, List.getElem?_toArray, List.getElem?_cons_zero, List.getElem?_cons_succ, Option.bind_some, List.setIfInBounds_toArray, List.set_cons_zero, List.set_cons_succ]
    refine Plan.det 1 rfl (Grow.refl) ?_
    apply Exists.intro
    refine ⟨fun vs x hR hF K hK => ?_, ?_⟩
    · have hc := HC.out x hR; clear hF
      go_simp
      exact hK _ _ (Grow.refl _) rfl
    refine Plan.det 2 rfl (Grow.refl) ?_
    apply Exists.intro
    refine ⟨fun vs x hR hF K hK => ?_, ?_⟩
    · clear hF
      go_simp
      exact hK _ _ (Grow.refl _) rfl
    refine Plan.det 3 rfl (Grow.refl) ?_
    apply Exists.intro
    refine ⟨fun vs x hR hF K hK => ?_, ?_⟩
    · have f1 := hF 0 _ _ rfl rfl; have hc := HC.out x hR; clear hF
      go_simp
      exact hK _ _ (Grow.refl _) rfl
    refine Plan.det 4 rfl (Grow.refl) ?_
    apply Exists.intro
    refine ⟨fun vs x hR hF K hK => ?_, ?_⟩
    · clear hF
      go_simp
      exact hK _ _ (Grow.refl _) rfl
    refine Plan.det 5 rfl (Grow.refl) ?_
    apply Exists.intro
    refine ⟨fun vs x hR hF K hK => ?_, ?_⟩
    · have f3 := hF 0 _ _ rfl rfl; have hc := HC.out x hR; clear hF
      go_simp
      exact hK _ _ (Grow.refl _) rfl
    refine Plan.det 6 rfl (Grow.refl) ?_
    apply Exists.intro
    refine ⟨fun vs x hR hF K hK => ?_, ?_⟩
    · clear hF
      go_simp
      exact hK _ _ (Grow.refl _) rfl
    refine Plan.det 7 rfl (Grow.refl) ?_
    apply Exists.intro
    refine ⟨fun vs x hR hF K hK => ?_, ?_⟩
    · have f5 := hF 0 _ _ rfl rfl; have hc := HC.out x hR; clear hF
      go_simp
      exact hK _ _ (Grow.refl _) rfl
    refine Plan.rel 8 rfl (Grow.refl) (fun v y => ThV ⟨L, lines, str.data.toList⟩ at_ d v y) (fun v a b hR h => h.grow hR) (fun vs x hR hF K hK => ?_) ?_
    · have f0 := hF 6 _ _ rfl rfl; have f2 := hF 4 _ _ rfl rfl; have f4 := hF 2 _ _ rfl rfl; have f6 := hF 0 _ _ rfl rfl
      go_simp
      refine (Threads_any x ⟨L, lines, str.data.toList⟩ a c str at_ d (HPP.out x hR)).mono ?_
      rintro e x1 ⟨hbe, v, ts, rfl, h1, h2⟩
      exact ⟨_, rfl, hK _ _ hbe ⟨_, ts, h1, h2⟩⟩
    refine Plan.det 9 rfl (Grow.refl) ?_
    apply Exists.intro
    refine ⟨fun vs x hR hF K hK => ?_, ?_⟩
    · have hc := HC.out x hR; clear hF
      go_simp
      exact hK _ _ (Grow.refl _) rfl
    refine Plan.det 10 rfl (Grow.refl) ?_
    apply Exists.intro
    refine ⟨fun vs x hR hF K hK => ?_, ?_⟩
    · clear hF
      go_simp
      exact hK _ _ (Grow.refl _) rfl
    refine Plan.det 11 rfl (Grow.refl) ?_
    apply Exists.intro
    refine ⟨fun vs x hR hF K hK => ?_, ?_⟩
    · have f9 := hF 0 _ _ rfl rfl; have hc := HC.out x hR; clear hF
      go_simp
      exact hK _ _ (Grow.refl _) rfl
    refine Plan.det 12 rfl (Grow.refl) ?_
    apply Exists.intro
    refine ⟨fun vs x hR hF K hK => ?_, ?_⟩
    · clear hF
      go_simp
      exact hK _ _ (Grow.refl _) rfl
    refine Plan.det 13 rfl (Grow.refl) ?_
    apply Exists.intro
    refine ⟨fun vs x hR hF K hK => ?_, ?_⟩
    · have f11 := hF 0 _ _ rfl rfl; have hc := HC.out x hR; clear hF
      go_simp
      exact hK _ _ (Grow.refl _) rfl
    refine Plan.det 14 rfl (Grow.refl) ?_
    apply Exists.intro
    refine ⟨fun vs x hR hF K hK => ?_, ?_⟩
    · clear hF
      go_simp
      exact hK _ _ (Grow.refl _) rfl
    refine Plan.det 15 rfl (Grow.refl) ?_
    apply Exists.intro
    refine ⟨fun vs x hR hF K hK => ?_, ?_⟩
    · have f13 := hF 0 _ _ rfl rfl; have hc := HC.out x hR; clear hF
      go_simp
      exact hK _ _ (Grow.refl _) rfl
    refine Plan.rel 16 rfl (Grow.refl) (fun v y => ThV ⟨L, lines, str.data.toList⟩ at_ d v y) (fun v a b hR h => h.grow hR) (fun vs x hR hF K hK => ?_) ?_
    · have f7 := hF 7 _ _ rfl rfl; have f8 := hF 6 _ _ rfl rfl; have f10 := hF 4 _ _ rfl rfl; have f12 := hF 2 _ _ rfl rfl; have f14 := hF 0 _ _ rfl rfl
      go_simp
      refine (ThreadsR_any x ⟨L, lines, str.data.toList⟩ a c str at_ d (HPP.out x hR)).mono ?_
      rintro e x1 ⟨hbe, v, ts, rfl, h1, h2⟩
      exact ⟨_, rfl, hK _ _ hbe ⟨_, ts, h1, h2⟩⟩
    refine Plan.det 17 rfl (Grow.refl) ?_
    apply Exists.intro
    refine ⟨fun vs x hR hF K hK => ?_, ?_⟩
    · have f7 := hF 8 _ _ rfl rfl; have f15 := hF 0 _ _ rfl rfl; clear hF
      obtain ⟨b7, ts7, h7, o7⟩ := f7
      obtain ⟨b15, ts15, h15, o15⟩ := f15
      obtain rfl := h7.unique h15
      have hlen := h7.len
      have hfew := HFE.out.1
      go_simp
      refine (SameIntsR_any x _ _ _ _ ts7 o7 o15 (by have h9 : ts7.length ≤ L.length := hlen; omega)).mono ?_
      rintro e x1 ⟨rfl, hbe⟩
      exact ⟨_, rfl, hK _ _ hbe rfl⟩
    refine Plan.det 18 rfl (Grow.refl) ?_
    apply Exists.intro
    refine ⟨fun vs x hR hF K hK => ?_, ?_⟩
    · have f16 := hF 0 _ _ rfl rfl; clear hF
      go_simp
      exact hK _ _ (Grow.refl _) rfl
    refine Plan.det 19 rfl (Grow.refl) ?_
    apply Exists.intro
    refine ⟨fun vs x hR hF K hK => ?_, ?_⟩
    · have f17 := hF 0 _ _ rfl rfl; clear hF
      go_simp
      refine (awake11_any x).mono ?_
      rintro e x1 ⟨rfl, hbe⟩
      exact ⟨_, rfl, hK _ _ hbe rfl⟩
    refine Plan.det 20 rfl (Grow.refl) ?_
    apply Exists.intro
    refine ⟨fun vs x hR hF K hK => ?_, ?_⟩
    · have f17 := hF 1 _ _ rfl rfl; have f18 := hF 0 _ _ rfl rfl; clear hF
      go_simp
      exact hK _ _ (Grow.refl _) rfl
    refine Plan.det 21 rfl (Grow.refl) ?_
    apply Exists.intro
    refine ⟨fun vs x hR hF K hK => ?_, ?_⟩
    · have f0 := hF 19 _ _ rfl rfl; have f1 := hF 18 _ _ rfl rfl; have f2 := hF 17 _ _ rfl rfl; have f3 := hF 16 _ _ rfl rfl; have f4 := hF 15 _ _ rfl rfl; have f5 := hF 14 _ _ rfl rfl; have f6 := hF 13 _ _ rfl rfl; have f7 := hF 12 _ _ rfl rfl; have f8 := hF 11 _ _ rfl rfl; have f9 := hF 10 _ _ rfl rfl; have f10 := hF 9 _ _ rfl rfl; have f11 := hF 8 _ _ rfl rfl; have f12 := hF 7 _ _ rfl rfl; have f13 := hF 6 _ _ rfl rfl; have f14 := hF 5 _ _ rfl rfl; have f15 := hF 4 _ _ rfl rfl; have f16 := hF 3 _ _ rfl rfl; have f17 := hF 2 _ _ rfl rfl; have f18 := hF 1 _ _ rfl rfl; have f19 := hF 0 _ _ rfl rfl; clear hF
      go_simp
      exact hK _ _ (Grow.refl _) rfl
    refine Plan.nil (fun vs x hR hF => ?_)
    have f0 := hF 20 _ _ rfl; have f1 := hF 19 _ _ rfl; have f2 := hF 18 _ _ rfl; have f3 := hF 17 _ _ rfl; have f4 := hF 16 _ _ rfl; have f5 := hF 15 _ _ rfl; have f6 := hF 14 _ _ rfl; have f7 := hF 13 _ _ rfl; have f8 := hF 12 _ _ rfl; have f9 := hF 11 _ _ rfl; have f10 := hF 10 _ _ rfl; have f11 := hF 9 _ _ rfl; have f12 := hF 8 _ _ rfl; have f13 := hF 7 _ _ rfl; have f14 := hF 6 _ _ rfl; have f15 := hF 5 _ _ rfl; have f16 := hF 4 _ _ rfl; have f17 := hF 3 _ _ rfl; have f18 := hF 2 _ _ rfl; have f19 := hF 1 _ _ rfl; have f20 := hF 0 _ _ rfl
    clear hF
    simp only [f0, f1, f2, f3, f4, f5, f6, f8, f9, f10, f11, f12, f13, f14, f16, f17, f18, f19, f20]
    clear f0 f1 f2 f3 f4 f5 f6 f8 f9 f10 f11 f12 f13 f14 f16 f17 f18 f19 f20
    simp only [List.drop_succ_cons, List.drop_zero]
    have hbx : Below w2.heap.size w2 x := ⟨hR.os, hR.tape, hR.output, hR.size, hR.block⟩
    have HBE := hid (HB2.out.trans (hbx.mono HB2.out.size))
    clear HC hR hbx
    go_wp2_with fail
    all_goals (try go_ret)
    all_goals exact ⟨rfl, HBE.out⟩
end Go.Proofs.Ytnjcfggadeakpaa
