/- The reference of layer 9: Parses. -/
import Derived.Test.YthnpbopnpdlmnaaD22
import Derived.Test.YthnpbopnpdlmnaaD06
import Derived.Deep.Upon
import Derived.ArgAppend
import Derived.Test.YthnpbopnpdlmnaaD04
import Derived.Test.YthnpbopnpdlmnaaD03
namespace Go.Proofs.Ythnpbopnpdlmnaa
open Go.RowKit
attribute [local go_sem] gives givesUpon

set_option maxRecDepth 100000 in
set_option maxHeartbeats 8000000 in
theorem rnone_any (w : World) (N : Nat) (hN : N ≤ 9) :
    Calls Try.prog 32 #[.int .i64 N] w fun e w' => ∃ a c, e = .returned (.slice a N c) ∧ Below w.heap.size w w' ∧ SpQ w' (.slice a N c) (unsetAll N) := by
  go_enter Try.func32, Try.ntmps32
  go_wp2_with fail
  go_loopw [3, 4] (fun v3 v4 wr => ∃ (k : Nat) (a : Option Addr) (c : Nat), v3 = .slice a k c ∧ v4 = .int .i64 k ∧ k ≤ N ∧ Hid (OwnSp wr w.heap.size (.slice a k c) (unsetAll k) ∧ Below w.heap.size w wr)) (fun _ v4 _ => N - (intOf v4).toNat)
  case atStart => exact ⟨0, none, 0, rfl, rfl, Nat.zero_le _, OwnSp.nil _ _, Below.refl _ _⟩
  case round =>
    obtain ⟨k, a, c, rfl, rfl, hk, HX⟩ := hrel
    by_cases hlt : k < N
    · have hltI : (k : Int) < N := by omega
      have hlk : (unsetAll k).length = k := by simp [unsetAll]
      have hsz := HX.out.2.size
      go_wp2_with (at_builtin; refine wpList_append_sp rfl _ _ rfl w.heap.size _ (unsetAll k) [(-1, -1)] _ rfl ?c0 rfl (SpQ.lit (Row.new (by simp))) (by simp) ?c2 ?c3 ?_)
      case c0 => exact HX.out.1.below ((Below.refl _ _).alloc (Nat.le_refl _) _)
      case c2 => rw [hlk]; simp; omega
      case c3 => simp; omega
      intro a2 n2 c2 w3 hn2 hown hgrow hnw
      have hu : unsetAll k ++ [((-1 : Int), (-1 : Int))] = unsetAll (k + 1) := (List.replicate_succ' ..).symm
      have hn3 : n2 = k + 1 := by simpa [unsetAll] using hn2
      rw [hu] at hown
      subst hn3
      have HN := hid (⟨hown, (HX.out.2.alloc hsz _).grown hgrow (by simp; omega) fun g hg => (HX.out.1.lt g hg).1⟩ : _ ∧ Below w.heap.size w w3)
      clear hown hgrow hnw hn2 hu
      go_wp2_with fail
      refine ⟨⟨k + 1, a2, c2, rfl, by go_num, by omega, HN.out⟩, ?_⟩
      simp [intOf] <;> omega
    · obtain rfl : k = N := by omega
      have hltI : ¬ (k : Int) < (k : Int) := by omega
      go_wp2_with fail
      go_ret
      exact ⟨a, c, rfl, HX.out.2, HX.out.1.spb.q⟩
set_option maxRecDepth 100000 in
set_option maxHeartbeats 16000000 in
theorem RParses_any (w : World) (t : Re) (cs : List Value) (s : ByteArray) (at_ : Int) (lines : Bool) (hin : t.In w cs) (hsz : t.size ≤ 20) (hs : s.size ≤ 1000000) :
    Calls Try.prog 12 #[.agg cs.toArray, .string s, .int .i64 at_, .bool lines] w (ParsesPost w (parsesR t s at_ lines)) := by
  cases t with
  | mk p xs =>
  have hin2 := hin
  rw [Re.In] at hin2
  obtain ⟨ad, cap, rfl, -⟩ := hin2
  simp only [Pay.cells] at hin ⊢
  have hb1 : Below w.heap.size w (w.alloc (.cells #[.int .i64 p.op, .int .u64 p.set.a, .int .u64 p.set.b, .int .u64 p.set.c, .int .u64 p.set.d, .int .i64 p.lo, .int .i64 p.hi, .int .i64 p.gr, .slice ad xs.length cap] 28)) := (Below.refl _ _).alloc (Nat.le_refl _) _
  have HR := hid (Row.new (w := w) (cs := [.int .i64 p.op, .int .u64 p.set.a, .int .u64 p.set.b, .int .u64 p.set.c, .int .u64 p.set.d, .int .i64 p.lo, .int .i64 p.hi, .int .i64 p.gr, .slice ad xs.length cap]) (T := 28) rfl)
  have HIN := hid hin
  have HB1 := hid hb1
  have q0 := HR.out.c9
  have hck := CheckRef_any (.mk p xs) (w.alloc (.cells #[.int .i64 p.op, .int .u64 p.set.a, .int .u64 p.set.b, .int .u64 p.set.c, .int .u64 p.set.d, .int .i64 p.lo, .int .i64 p.hi, .int .i64 p.gr, .slice ad xs.length cap] 28)) [.int .i64 p.op, .int .u64 p.set.a, .int .u64 p.set.b, .int .u64 p.set.c, .int .u64 p.set.d, .int .i64 p.lo, .int .i64 p.hi, .int .i64 p.gr, .slice ad xs.length cap] (hin.below hb1) (by omega)
  have HCK := hid hck
  clear hin hb1 hck
  go_enter Try.func12, Try.ntmps12
  go_wp2_with fail
  refine HCK.out.mono ?_
  rintro e z ⟨rfl, hb⟩
  have HZ := hid (⟨HR.out.below hb HR.out.lt, HB1.out.trans (hb.mono HB1.out.size)⟩ : Row z w.heap.size [.int .i64 p.op, .int .u64 p.set.a, .int .u64 p.set.b, .int .u64 p.set.c, .int .u64 p.set.d, .int .i64 p.lo, .int .i64 p.hi, .int .i64 p.gr, .slice ad xs.length cap] 28 ∧ Below w.heap.size w z)
  clear hb q0 HCK HR HB1
  have q0 := HZ.out.1.c9
  obtain ⟨er, her⟩ : ∃ er, er = (Re.mk p xs).err := ⟨_, rfl⟩
  have HER := hid her
  rw [← her]
  clear her
  by_cases he : er = 0
  · by_cases hr : at_ < 0 ∨ (s.size : Int) < at_
    · have hc : chk (.mk p xs) s at_ = 2 := by unfold chk; rw [if_neg (by rw [← HER.out]; simp [he]), if_pos hr]
      have hp : parsesR (.mk p xs) s at_ lines = ([], 2) := by unfold parsesR; rw [hc]; rfl
      have HPR := hid hp
      subst he
      have HZ2 := hid HZ.out.2
      clear hc hp HER HZ
      have hr2 : at_ < 0 ∨ (¬ at_ < 0 ∧ (s.size : Int) < at_) := by omega
      clear hr
      rcases hr2 with hr | ⟨hr1, hr⟩
      all_goals
        go_wp2_with fail
        go_ret2
        rw [HPR.out]
        exact ⟨none, 0, rfl, HZ2.out, .inl ⟨rfl, rfl⟩⟩
    · have hc : chk (.mk p xs) s at_ = 0 := by unfold chk; rw [if_neg (by rw [← HER.out]; simp [he]), if_neg hr]
      obtain ⟨h1, h2, h3⟩ := chk_zero hc
      obtain ⟨f, rfl⟩ : ∃ f : Nat, at_ = f := ⟨at_.toNat, by omega⟩
      obtain ⟨ok, hg9, -⟩ := Re.ok_err h1
      have hrep := Re.reps_err h1
      have hpar := rpar_any w (Re.mk p xs).groups hg9 s hs lines (.mk p xs) ok hrep
      have hf : f ≤ s.size := by omega
      have hfs : ¬ (s.size : Int) < (f : Int) := by omega
      have hf0 : ¬ (f : Int) < 0 := by omega
      have hpr : parsesR (.mk p xs) s f lines = match parses s.data.toList lines (.mk p xs) f (unsetAll (Re.mk p xs).groups) with | none => ([], 11) | some l => (l, 0) := by
        unfold parsesR; rw [if_neg (by simp [hc])]; rfl
      have HC := hid (fun (x : World) (hx : Grow z.drew x) => (HZ.out.1.below (grow_below hx) HZ.out.1.lt).c9)
      have hgc := fun (x : World) (hx : Grow z.drew x) => GroupsRef_any (.mk p xs) x [.int .i64 p.op, .int .u64 p.set.a, .int .u64 p.set.b, .int .u64 p.set.c, .int .u64 p.set.d, .int .i64 p.lo, .int .i64 p.hi, .int .i64 p.gr, .slice ad xs.length cap] (HIN.out.below (HZ.out.2.trans ((grow_below hx).mono HZ.out.2.size))) (by omega)
      have hnn := fun (x : World) => rnone_any x (Re.mk p xs).groups hg9
      have hch := fun (x : World) (hx : Grow z.drew x) (a : Option Addr) (c : Nat) (hsq : SpQ x (.slice a (Re.mk p xs).groups c) (unsetAll (Re.mk p xs).groups)) => hpar x [.int .i64 p.op, .int .u64 p.set.a, .int .u64 p.set.b, .int .u64 p.set.c, .int .u64 p.set.d, .int .i64 p.lo, .int .i64 p.hi, .int .i64 p.gr, .slice ad xs.length cap] a c (unsetAll (Re.mk p xs).groups) f HIN.out ok hsz (HZ.out.2.trans ((grow_below hx).mono HZ.out.2.size)) (by simpa [unsetAll] using hsq) (unsetAll_ok _ _) hf
      have hul : (unsetAll (Re.mk p xs).groups).length = (Re.mk p xs).groups := by simp [unsetAll]
      rw [hul] at hch
      obtain ⟨g, hg⟩ : ∃ g, g = (Re.mk p xs).groups := ⟨_, rfl⟩
      rw [← hg] at hgc hnn hch hpr
      obtain ⟨r, hr⟩ : ∃ r, r = parses s.data.toList lines (.mk p xs) f (unsetAll g) := ⟨_, rfl⟩
      rw [← hr] at hch hpr
      have HGC := hid hgc
      have HNN := hid hnn
      have HCH := hid hch
      have HPR := hid hpr
      rw [he]
      clear hc h1 h2 h3 ok hrep hpar hgc hnn hch hpr hul hg hr hg9 hf
      go_wp2_with fail
      refine wp_region_two 8 14 rfl (Grow) (by kernel_rfl) (by kernel_rfl) (Grow.refl) (fun _ _ _ => Grow.trans) ?_
      simp only [fill, dstOf, Act.put, List.take_succ_cons, List.take_zero, List.getElem?_toArray, List.getElem?_cons_zero, List.getElem?_cons_succ, Option.bind_some, List.setIfInBounds_toArray, List.set_cons_zero, List.set_cons_succ]
      refine Plan.det 1 rfl (Grow.refl) ?_
      apply Exists.intro
      refine ⟨fun vs x hR hF K hK => ?_, ?_⟩
      · clear hF
        go_simp
        exact hK _ _ (Grow.refl _) rfl
      refine Plan.det 2 rfl (Grow.refl) ?_
      apply Exists.intro
      refine ⟨fun vs x hR hF K hK => ?_, ?_⟩
      · clear hF
        go_simp
        exact hK _ _ (Grow.refl _) rfl
      refine Plan.det 3 rfl (Grow.refl) ?_
      apply Exists.intro
      refine ⟨fun vs x hR hF K hK => ?_, ?_⟩
      · have f0 := hF 1 _ _ rfl rfl; have f1 := hF 0 _ _ rfl rfl; clear hF
        go_simp
        exact hK _ _ (Grow.refl _) rfl
      refine Plan.det 4 rfl (Grow.refl) ?_
      apply Exists.intro
      refine ⟨fun vs x hR hF K hK => ?_, ?_⟩
      · have hc := HC.out x hR; clear hF
        go_simp
        exact hK _ _ (Grow.refl _) rfl
      refine Plan.det 5 rfl (Grow.refl) ?_
      apply Exists.intro
      refine ⟨fun vs x hR hF K hK => ?_, ?_⟩
      · clear hF
        go_simp
        exact hK _ _ (Grow.refl _) rfl
      refine Plan.det 6 rfl (Grow.refl) ?_
      apply Exists.intro
      refine ⟨fun vs x hR hF K hK => ?_, ?_⟩
      · have hc := HC.out x hR; clear hF
        go_simp
        exact hK _ _ (Grow.refl _) rfl
      refine Plan.det 7 rfl (Grow.refl) ?_
      apply Exists.intro
      refine ⟨fun vs x hR hF K hK => ?_, ?_⟩
      · have f5 := hF 0 _ _ rfl rfl; clear hF
        go_simp
        refine (HGC.out x hR).mono ?_
        rintro e x1 ⟨rfl, hbe⟩
        exact ⟨_, rfl, hK _ _ hbe rfl⟩
      refine Plan.rel 8 rfl (Grow.refl) (fun v y => ∃ (a2 : Option Addr) (c2 : Nat), v = .slice a2 g c2 ∧ SpQ y (.slice a2 g c2) (unsetAll g)) (fun v y z hR ⟨a1, c1, h1, h2⟩ => ⟨a1, c1, h1, h2.below hR⟩) (fun vs x hR hF K hK => ?_) ?_
      · have f6 := hF 0 _ _ rfl rfl
        go_simp
        refine (HNN.out x).mono ?_
        rintro e x1 ⟨a2, c2, rfl, hbe, h1⟩
        exact ⟨_, rfl, hK _ _ hbe ⟨a2, c2, rfl, h1⟩⟩
      refine PlanEnd (by simp) (fun vs x hR hF => ?_)
      have f0 := hF 7 _ _ rfl; have f1 := hF 6 _ _ rfl; have f2 := hF 5 _ _ rfl; have f3 := hF 4 _ _ rfl; have f4 := hF 3 _ _ rfl; have f5 := hF 2 _ _ rfl; have f6 := hF 1 _ _ rfl; have f7 := hF 0 _ _ rfl
      clear hF
      simp only [f0, f1, f2, f3, f4, f5, f6]
      clear f0 f1 f2 f3 f4 f5 f6
      intro oo hoo KQ hK
      obtain rfl := Option.some.inj hoo
      clear hoo
      obtain ⟨a2, c3, ev2, hs2⟩ := f7
      simp only [ev2]
      clear ev2
      have HBX := hid (grow_below hR)
      have hcc := HCH.out x hR a2 c3 hs2
      clear hR hs2
      go_simp
      refine hcc.mono ?_
      clear hcc
      rintro e w' ⟨a9, l9, c9, rfl, hb9, h9, h9n⟩
      have HB9 := hid (HZ.out.2.trans ((HBX.out.trans (hb9.mono HBX.out.size)).mono HZ.out.2.size))
      have HPX : Hid (∀ l, r = some l → l9 = l.length ∧ PsQ (w.heap.size ≤ ·) w' (.slice a9 l9 c9) l) := fun l hl => ⟨(h9 l hl).1, (h9 l hl).2.mono fun b _ hb => Nat.le_trans (Nat.le_trans HZ.out.2.size HBX.out.size) hb⟩
      clear hb9 h9 h9n
      refine ⟨_, rfl, hK _ _ ?_⟩
      clear hK
      unfold AfterC
      simp only [fill, dstOf, Act.put, List.getElem?_toArray, List.getElem?_cons_zero, List.getElem?_cons_succ, Option.bind_some, List.setIfInBounds_toArray, List.set_cons_zero, List.set_cons_succ, List.drop_succ_cons, List.drop_zero]
      refine Plan.det 10 rfl (fun _ => rfl) ?_
      apply Exists.intro
      refine ⟨fun vs x hR hF K hK => ?_, ?_⟩
      · have f8 := hF 0 _ _ rfl rfl; clear hF
        go_simp
        exact hK _ _ rfl rfl
      refine Plan.det 11 rfl (fun _ => rfl) ?_
      apply Exists.intro
      refine ⟨fun vs x hR hF K hK => ?_, ?_⟩
      · have f9 := hF 0 _ _ rfl rfl; clear hF
        go_simp
        exact hK _ _ rfl rfl
      refine Plan.det 12 rfl (fun _ => rfl) ?_
      apply Exists.intro
      refine ⟨fun vs x hR hF K hK => ?_, ?_⟩
      · have f9 := hF 1 _ _ rfl rfl; clear hF
        go_simp
        exact hK _ _ rfl rfl
      refine Plan.det 13 rfl (fun _ => rfl) ?_
      apply Exists.intro
      refine ⟨fun vs x hR hF K hK => ?_, ?_⟩
      · have f8 := hF 3 _ _ rfl rfl; have f9 := hF 2 _ _ rfl rfl; have f10 := hF 1 _ _ rfl rfl; clear hF
        go_simp
        exact hK _ _ rfl rfl
      refine Plan.det 14 rfl (fun _ => rfl) ?_
      apply Exists.intro
      refine ⟨fun vs x hR hF K hK => ?_, ?_⟩
      · have f8 := hF 4 _ _ rfl rfl; have f9 := hF 3 _ _ rfl rfl; have f10 := hF 2 _ _ rfl rfl; have f11 := hF 1 _ _ rfl rfl; have f12 := hF 0 _ _ rfl rfl; clear hF
        go_simp
        exact hK _ _ rfl rfl
      refine Plan.nil (fun vs x hR2 hF => ?_)
      have f8 := hF 5 _ _ rfl; have f9 := hF 4 _ _ rfl; have f10 := hF 3 _ _ rfl; have f11 := hF 2 _ _ rfl; have f12 := hF 1 _ _ rfl; have f13 := hF 0 _ _ rfl
      clear hF
      simp only [f8, f9, f10, f11, f12, f13]
      clear f8 f9 f10 f11 f12 f13
      subst hR2
      simp only [List.drop_succ_cons, List.drop_nil]
      clear HC q0 HGC HNN HCH
      cases r with
      | none =>
        simp only [Option.isSome_none]
        go_wp2_with fail
        go_ret2
        rw [HPR.out]
        exact ⟨none, 0, rfl, HB9.out, .inl ⟨rfl, rfl⟩⟩
      | some l =>
        simp only [Option.isSome_some]
        go_wp2_with fail
        go_ret2
        obtain ⟨rfl, hps⟩ := HPX.out l rfl
        rw [HPR.out]
        exact ⟨a9, c9, rfl, HB9.out, hps⟩
  · have hc : chk (.mk p xs) s at_ = er := by unfold chk; rw [if_pos (by rw [← HER.out]; exact he), HER.out]
    have hp : parsesR (.mk p xs) s at_ lines = ([], er) := by unfold parsesR; rw [hc, if_pos he]
    have HPR := hid hp
    have HZ2 := hid HZ.out.2
    clear hc hp HER HZ
    go_wp2_with fail
    go_ret2
    rw [HPR.out]
    exact ⟨none, 0, rfl, HZ2.out, .inl ⟨rfl, rfl⟩⟩
end Go.Proofs.Ythnpbopnpdlmnaa

/- append of spans to one span just laid. -/
namespace Go.Proofs.Ythnpbopnpdlmnaa
open Go.RowKit

end Go.Proofs.Ythnpbopnpdlmnaa

/- The reference of layer 9: At and Leftmost. -/
namespace Go.Proofs.Ythnpbopnpdlmnaa
open Go.RowKit
attribute [local go_sem] gives givesUpon

end Go.Proofs.Ythnpbopnpdlmnaa

/- The laws of layer 9: trees of one byte, and nodes. -/
namespace Go.Proofs.Ythnpbopnpdlmnaa
open Go.RowKit
attribute [local go_sem] gives givesUpon

def byteT (c : UInt8) : Re := .mk ⟨2, Cs.of [c], 0, 0, 0⟩ []
def nodeT (op gr : Int) (xs : List Re) : Re := .mk ⟨op, Cs.none, 0, 0, gr⟩ xs
abbrev byteC (c : UInt8) : List Value := [.int .i64 2, .int .u64 (Cs.of [c]).a, .int .u64 (Cs.of [c]).b, .int .u64 (Cs.of [c]).c, .int .u64 (Cs.of [c]).d, .int .i64 0, .int .i64 0, .int .i64 0, .slice none 0 0]
theorem byteT_in (c : UInt8) (w : World) : (byteT c).In w (byteC c) := by
  unfold byteT
  rw [Re.In]
  exact ⟨none, 0, rfl, ⟨by unfold I64; dsimp only; omega, Cs.of_wf _, by unfold I64; dsimp only; omega, by unfold I64; dsimp only; omega, by unfold I64; dsimp only; omega⟩, Nat.le_refl _, by unfold maxLen; omega, fun _ => rfl, by rw [Re.AllIn]; trivial⟩
set_option maxRecDepth 100000 in
set_option maxHeartbeats 4000000 in
theorem Byte_any (w : World) (c : UInt8) : Calls Try.prog 30 #[.int .u8 c.toNat] w fun e w' => e = .returned (.agg (byteC c).toArray) ∧ Below w.heap.size w w' := by
  have hstr : (strOfNums [(c.toNat : Int)]).data.toList = [c] := by
    simp [strOfNums]
  have hW1 : Below w.heap.size w ((w.alloc (.cells #[.int .i64 0, .int .u64 0, .int .u64 0, .int .u64 0, .int .u64 0, .int .i64 0, .int .i64 0, .int .i64 0, .slice none 0 0] 28)).alloc (.cells #[.int .u8 c.toNat] 5)) := ((Below.refl _ w).alloc (Nat.le_refl _) _).alloc (by simp) _
  have hconv := run_convert_bytes_arg (P := Try.prog) ((w.alloc (.cells #[.int .i64 0, .int .u64 0, .int .u64 0, .int .u64 0, .int .u64 0, .int .i64 0, .int .i64 0, .int .i64 0, .slice none 0 0] 28)).alloc (.cells #[.int .u8 c.toNat] 5)) 101 5 Try.underlying101 Try.underlying5 (w.heap.size + 1) 0 1 1 [(c.toNat : Int)] rfl (fun j hj => by
    obtain rfl : j = 0 := by omega
    exact (Row.new (w := w.alloc (.cells #[.int .i64 0, .int .u64 0, .int .u64 0, .int .u64 0, .int .u64 0, .int .i64 0, .int .i64 0, .int .i64 0, .slice none 0 0] 28)) (cs := [.int .u8 c.toNat]) (T := 5) (by simp)).cell 0) 9 Try.underlying9
  have hlen : (strOfNums [(c.toNat : Int)]).size = 1 := by show (strOfNums [(c.toNat : Int)]).data.size = 1; rw [← Array.length_toList, hstr]; rfl
  have HOF := hid (Of_any (strOfNums [(c.toNat : Int)]) ((w.alloc (.cells #[.int .i64 0, .int .u64 0, .int .u64 0, .int .u64 0, .int .u64 0, .int .i64 0, .int .i64 0, .int .i64 0, .slice none 0 0] 28)).alloc (.cells #[.int .u8 c.toNat] 5)) (by rw [hlen]; omega))
  rw [hstr] at HOF
  have HW1 := hid hW1
  have HRR := hid ((Row.new (w := w) (cs := [.int .i64 0, .int .u64 0, .int .u64 0, .int .u64 0, .int .u64 0, .int .i64 0, .int .i64 0, .int .i64 0, .slice none 0 0]) (T := 28) rfl).alloc (.cells #[.int .u8 c.toNat] 5))
  clear hstr hW1 hlen
  go_enter Try.func30, Try.ntmps30
  go_wp2_with fail
  refine HOF.out.mono ?_
  rintro e w1 ⟨rfl, hb⟩
  have hr := HRR.out.below hb (by simp; omega)
  have HR := hid hr
  have HB := hid (HW1.out.trans (hb.mono (by simp; omega)))
  have q := hr.c9
  clear hb hr HOF hconv
  generalize hcs : Cs.of [c] = cs at *
  have HCS := hid hcs
  clear hcs
  go_wp2_with fail
  refine bodyPost_ret (results_cell_row rfl _ _ w.heap.size _ _ _ _ rfl (show _ = some (Obj.cells (List.toArray _) _) from HR.out.set9 (.int .i64 2) (.int .u64 cs.a) (.int .u64 cs.b) (.int .u64 cs.c) (.int .u64 cs.d) (.int .i64 0) (.int .i64 0) (.int .i64 0) (.slice none 0 0)) Try.underlying28 rfl (by kernel_rfl)) rfl ?_
  have := HCS.out
  subst this
  exact ⟨rfl, below9 HB.out (Nat.le_refl _) _ _ _ _ _ _ _ _ _⟩
set_option maxHeartbeats 2000000 in
theorem Node_any (w : World) (op : Int) (a : Option Addr) (n c : Nat) : Calls Try.prog 13 #[.int .i64 op, .slice a n c] w fun e w' => e = .returned (.agg #[.int .i64 op, .int .u64 0, .int .u64 0, .int .u64 0, .int .u64 0, .int .i64 0, .int .i64 0, .int .i64 0, .slice a n c]) ∧ Below w.heap.size w w' := by
  have HRR := hid (Row.new (w := w) (cs := [.int .i64 0, .int .u64 0, .int .u64 0, .int .u64 0, .int .u64 0, .int .i64 0, .int .i64 0, .int .i64 0, .slice none 0 0]) (T := 28) rfl)
  have q := HRR.out.c9
  go_enter Try.func13, Try.ntmps13
  go_wp2_with fail
  refine bodyPost_ret (results_cell_row rfl _ _ w.heap.size _ _ _ _ rfl (show _ = some (Obj.cells (List.toArray _) _) from Row.new (cs := [.int .i64 op, .int .u64 0, .int .u64 0, .int .u64 0, .int .u64 0, .int .i64 0, .int .i64 0, .int .i64 0, .slice a n c]) rfl) Try.underlying28 rfl (by kernel_rfl)) rfl ?_
  exact ⟨rfl, (Below.refl _ w).alloc (Nat.le_refl _) _⟩

theorem node_in {w : World} {b : Nat} {T : TypeId} (op gr : Int) (hop : I64 op) (hgr : I64 gr) (L : List (Re × List Value)) (hr : Row w b (L.flatMap Prod.snd) T) (hn : L.length ≤ 100) (h : ∀ e, e ∈ L → e.1.In w e.2) :
    (nodeT op gr (L.map Prod.fst)).In w [.int .i64 op, .int .u64 0, .int .u64 0, .int .u64 0, .int .u64 0, .int .i64 0, .int .i64 0, .int .i64 gr, .slice (some ⟨b, 0, none⟩) L.length L.length] := by
  unfold nodeT
  rw [Re.In]
  refine ⟨some ⟨b, 0, none⟩, L.length, by rw [List.length_map]; rfl, ⟨hop, Cs.none_wf, by unfold I64; dsimp only; omega, by unfold I64; dsimp only; omega, hgr⟩, by rw [List.length_map]; exact Nat.le_refl _, by unfold maxLen; omega, (fun e => by cases e), ?_⟩
  refine AllIn_of w b L 0 fun i e hi => ⟨fun j v hj => ?_, h e (List.mem_of_getElem? hi)⟩
  have h9 : ∀ e, e ∈ L → e.2.length = 9 := fun e he => (h e he).nine
  have hj9 : j < 9 := by rw [← h9 e (List.mem_of_getElem? hi)]; exact (List.getElem?_eq_some_iff.1 hj).1
  rw [hr.cell, Nat.zero_add, flat9 L h9 i e j hi hj9]
  exact hj
end Go.Proofs.Ythnpbopnpdlmnaa

/- The search with back references, plainly: what a try comes to. -/
namespace Go.Proofs.Ythnpbopnpdlmnaa

inductive Kont where
  | done
  | mark (g : Nat) (i k : Nat) (next : Kont)
  | cat (xs : List Re) (j k : Nat) (next : Kont)
  | rep (p : Pay) (x : Re) (c j k : Nat) (next : Kont)
inductive Job where
  | try (e : Re) (i k : Nat)
  | cat (xs : List Re) (i k : Nat)
  | catj (x : Re) (xs : List Re) (i k n : Nat)
  | alt (xs : List Re) (i k : Nat)
  | rep (p : Pay) (x : Re) (c i k : Nat)
  | repj (p : Pay) (x : Re) (c i k lo n : Nat)
  | next
inductive Out where
  | found (l : Spans)
  | fail
  | over


section
variable (s : List UInt8) (lines : Bool)
def plainOf (p : Pay) (i k : Nat) (sp : Spans) : Bool :=
  if p.op = 1 then decide (k = i)
  else if p.op = 2 then decide (k = i + 1) && p.set.has (byteAt s i).toNat
  else if p.op = 7 then decide (k = i) && (decide (i = 0) || lines && decide (byteAt s (i - 1) = 10))
  else if p.op = 8 then decide (k = i) && (decide (i = s.length) || lines && decide (byteAt s i = 10))
  else let g := sp.getD (p.gr.toNat - 1) (-1, -1)
    decide (0 ≤ g.1) && decide ((k : Int) - i = g.2 - g.1) && decide ((s.drop i).take (k - i) = (s.drop g.1.toNat).take (k - i))
def partOp (p : Pay) : Prop := p.op = 3 ∨ p.op = 4 ∨ p.op = 5 ∨ p.op = 6
def mayRep (p : Pay) (c : Nat) : Prop := p.hi = -1 ∨ (c : Int) < p.hi
def repLow (p : Pay) (c i : Nat) : Nat := if (c : Int) < p.lo then i else i + 1

inductive Ev : Job → Spans → Kont → Nat → Out → Nat → Prop where
  | tryOver {e i k sp K} : Ev (.try e i k) sp K 0 .over 0
  | leafFail {p xs i k sp K n} (h : ¬ partOp p) (hp : plainOf s lines p i k sp = false) : Ev (.try (.mk p xs) i k) sp K (n + 1) .fail n
  | leaf {p xs i k sp K n o m} (h : ¬ partOp p) (hp : plainOf s lines p i k sp = true) (hn : Ev .next sp K n o m) : Ev (.try (.mk p xs) i k) sp K (n + 1) o m
  | tryCat {p xs i k sp K n o m} (h : p.op = 3) (hn : Ev (.cat xs i k) sp K n o m) : Ev (.try (.mk p xs) i k) sp K (n + 1) o m
  | tryAlt {p xs i k sp K n o m} (h : p.op = 4) (hn : Ev (.alt xs i k) sp K n o m) : Ev (.try (.mk p xs) i k) sp K (n + 1) o m
  | tryRep {p x i k sp K n o m} (h : p.op = 5) (hn : Ev (.rep p x 0 i k) sp K n o m) : Ev (.try (.mk p [x]) i k) sp K (n + 1) o m
  | tryGroup {p x i k sp K n o m} (h : p.op = 6) (hn : Ev (.try x i k) sp (.mark p.gr.toNat i k K) n o m) : Ev (.try (.mk p [x]) i k) sp K (n + 1) o m
  | catOne {x i k sp K n o m} (hn : Ev (.try x i k) sp K n o m) : Ev (.cat [x] i k) sp K n o m
  | catMore {x y ys i k sp K n o m} (hn : Ev (.catj x (y :: ys) i k (k + 1 - i)) sp K n o m) : Ev (.cat (x :: y :: ys) i k) sp K n o m
  | catjNone {x xs i k sp K n} : Ev (.catj x xs i k 0) sp K n .fail n
  | catjHit {x xs i k c sp K n o m} (hn : Ev (.try x i (i + c)) sp (.cat xs (i + c) k K) n o m) (ho : o ≠ .fail) : Ev (.catj x xs i k (c + 1)) sp K n o m
  | catjMiss {x xs i k c sp K n o m m'} (hn : Ev (.try x i (i + c)) sp (.cat xs (i + c) k K) n .fail m) (hr : Ev (.catj x xs i k c) sp K m o m') : Ev (.catj x xs i k (c + 1)) sp K n o m'
  | altNone {i k sp K n} : Ev (.alt [] i k) sp K n .fail n
  | altHit {x xs i k sp K n o m} (hn : Ev (.try x i k) sp K n o m) (ho : o ≠ .fail) : Ev (.alt (x :: xs) i k) sp K n o m
  | altMiss {x xs i k sp K n o m m'} (hn : Ev (.try x i k) sp K n .fail m) (hr : Ev (.alt xs i k) sp K m o m') : Ev (.alt (x :: xs) i k) sp K n o m'
  | repMay {p x} {c : Nat} {i k sp K n o m} (h : mayRep p c) (hn : Ev (.repj p x c i k (repLow p c i) (k + 1 - repLow p c i)) sp K n o m) : Ev (.rep p x c i k) sp K n o m
  | repNot {p x} {c : Nat} {i k sp K n o m} (h : ¬ mayRep p c) (hn : Ev (.repj p x c i k (repLow p c i) 0) sp K n o m) : Ev (.rep p x c i k) sp K n o m
  | repjHit {p x c i k lo q sp K n o m} (hn : Ev (.try x i (lo + q)) (unset sp (withinOf x)) (.rep p x (c + 1) (lo + q) k K) n o m) (ho : o ≠ .fail) : Ev (.repj p x c i k lo (q + 1)) sp K n o m
  | repjMiss {p x c i k lo q sp K n o m m'} (hn : Ev (.try x i (lo + q)) (unset sp (withinOf x)) (.rep p x (c + 1) (lo + q) k K) n .fail m) (hr : Ev (.repj p x c i k lo q) sp K m o m') : Ev (.repj p x c i k lo (q + 1)) sp K n o m'
  | repjEnd {p x} {c i k lo : Nat} {sp K n o m} (h : i = k ∧ p.lo ≤ (c : Int)) (hn : Ev .next sp K n o m) : Ev (.repj p x c i k lo 0) sp K n o m
  | repjFail {p x} {c i k lo : Nat} {sp K n} (h : ¬ (i = k ∧ p.lo ≤ (c : Int))) : Ev (.repj p x c i k lo 0) sp K n .fail n
  | nextDone {sp n} : Ev .next sp .done n (.found sp) n
  | nextMark {g i k sp K n o m} (hn : Ev .next (sp.set (g - 1) ((i : Int), (k : Int))) K n o m) : Ev .next sp (.mark g i k K) n o m
  | nextCat {xs j k sp K n o m} (hn : Ev (.cat xs j k) sp K n o m) : Ev .next sp (.cat xs j k K) n o m
  | nextRep {p x c j k sp K n o m} (hn : Ev (.rep p x c j k) sp K n o m) : Ev .next sp (.rep p x c j k K) n o m

theorem Ev.left {J sp K n o m} (h : Ev s lines J sp K n o m) : m ≤ n ∧ (o = .over → m = 0) := by
  induction h with
  | tryOver => exact ⟨Nat.le_refl _, fun _ => rfl⟩
  | leafFail => exact ⟨Nat.le_succ _, fun h => by cases h⟩
  | catjNone => exact ⟨Nat.le_refl _, fun h => by cases h⟩
  | altNone => exact ⟨Nat.le_refl _, fun h => by cases h⟩
  | repjFail => exact ⟨Nat.le_refl _, fun h => by cases h⟩
  | nextDone => exact ⟨Nat.le_refl _, fun h => by cases h⟩
  | catjMiss _ _ h1 h2 => exact ⟨by omega, h2.2⟩
  | altMiss _ _ h1 h2 => exact ⟨by omega, h2.2⟩
  | repjMiss _ _ h1 h2 => exact ⟨by omega, h2.2⟩
  | leaf _ _ _ h => exact ⟨by omega, h.2⟩
  | tryCat _ _ h => exact ⟨by omega, h.2⟩
  | tryAlt _ _ h => exact ⟨by omega, h.2⟩
  | tryRep _ _ h => exact ⟨by omega, h.2⟩
  | tryGroup _ _ h => exact ⟨by omega, h.2⟩
  | catOne _ h => exact h
  | catMore _ h => exact h
  | catjHit _ _ h => exact h
  | altHit _ _ h => exact h
  | repMay _ _ h => exact h
  | repNot _ _ h => exact h
  | repjHit _ _ h => exact h
  | repjEnd _ _ h => exact h
  | nextMark _ h => exact h
  | nextCat _ h => exact h
  | nextRep _ h => exact h
theorem Ev.det {J sp K n o m} (h : Ev s lines J sp K n o m) : ∀ o' m', Ev s lines J sp K n o' m' → o = o' ∧ m = m' := by
  induction h with
  | tryOver => intro o' m' h'; cases h'; exact ⟨rfl, rfl⟩
  | leafFail h hp => intro o' m' h'; cases h' <;> first | exact ⟨rfl, rfl⟩ | (exfalso; simp_all [partOp]; done)
  | catjNone => intro o' m' h'; cases h'; exact ⟨rfl, rfl⟩
  | altNone => intro o' m' h'; cases h'; exact ⟨rfl, rfl⟩
  | repjFail h => intro o' m' h'; cases h' <;> first | exact ⟨rfl, rfl⟩ | (exfalso; contradiction)
  | nextDone => intro o' m' h'; cases h'; exact ⟨rfl, rfl⟩
  | leaf h hp hn ih => intro o' m' h'; clear hn; cases h' <;> first | exact ih _ _ (by assumption) | (exfalso; simp_all [partOp]; done)
  | tryCat h hn ih => intro o' m' h'; clear hn; cases h' <;> first | exact ih _ _ (by assumption) | (exfalso; simp_all [partOp]; done)
  | tryAlt h hn ih => intro o' m' h'; clear hn; cases h' <;> first | exact ih _ _ (by assumption) | (exfalso; simp_all [partOp]; done)
  | tryRep h hn ih => intro o' m' h'; clear hn; cases h' <;> first | exact ih _ _ (by assumption) | (exfalso; simp_all [partOp]; done)
  | tryGroup h hn ih => intro o' m' h'; clear hn; cases h' <;> first | exact ih _ _ (by assumption) | (exfalso; simp_all [partOp]; done)
  | catOne hn ih => intro o' m' h'; clear hn; cases h' <;> first | exact ih _ _ (by assumption) | (exfalso; simp_all [partOp]; done)
  | catMore hn ih => intro o' m' h'; clear hn; cases h' <;> first | exact ih _ _ (by assumption) | (exfalso; simp_all [partOp]; done)
  | repMay h hn ih => intro o' m' h'; clear hn; cases h' <;> first | exact ih _ _ (by assumption) | (exfalso; simp_all; done)
  | repNot h hn ih => intro o' m' h'; clear hn; cases h' <;> first | exact ih _ _ (by assumption) | (exfalso; simp_all; done)
  | repjEnd h hn ih => intro o' m' h'; clear hn; cases h' <;> first | exact ih _ _ (by assumption) | (exfalso; simp_all; done)
  | nextMark hn ih => intro o' m' h'; clear hn; cases h' <;> first | exact ih _ _ (by assumption) | (exfalso; simp_all [partOp]; done)
  | nextCat hn ih => intro o' m' h'; clear hn; cases h' <;> first | exact ih _ _ (by assumption) | (exfalso; simp_all [partOp]; done)
  | nextRep hn ih => intro o' m' h'; clear hn; cases h' <;> first | exact ih _ _ (by assumption) | (exfalso; simp_all [partOp]; done)
  | catjHit hn ho ih =>
    intro o' m' h'
    clear hn
    cases h' with
    | catjHit hn' ho' => exact ih _ _ hn'
    | catjMiss hn' hr' => exact absurd (ih _ _ hn').1 ho
  | catjMiss hn hr ih ih2 =>
    intro o' m' h'
    clear hn hr
    cases h' with
    | catjHit hn' ho' => exact absurd (ih _ _ hn').1.symm ho'
    | catjMiss hn' hr' =>
      obtain ⟨-, rfl⟩ := ih _ _ hn'
      exact ih2 _ _ hr'
  | altHit hn ho ih =>
    intro o' m' h'
    clear hn
    cases h' with
    | altHit hn' ho' => exact ih _ _ hn'
    | altMiss hn' hr' => exact absurd (ih _ _ hn').1 ho
  | altMiss hn hr ih ih2 =>
    intro o' m' h'
    clear hn hr
    cases h' with
    | altHit hn' ho' => exact absurd (ih _ _ hn').1.symm ho'
    | altMiss hn' hr' =>
      obtain ⟨-, rfl⟩ := ih _ _ hn'
      exact ih2 _ _ hr'
  | repjHit hn ho ih =>
    intro o' m' h'
    clear hn
    cases h' with
    | repjHit hn' ho' => exact ih _ _ hn'
    | repjMiss hn' hr' => exact absurd (ih _ _ hn').1 ho
  | repjMiss hn hr ih ih2 =>
    intro o' m' h'
    clear hn hr
    cases h' with
    | repjHit hn' ho' => exact absurd (ih _ _ hn').1.symm ho'
    | repjMiss hn' hr' =>
      obtain ⟨-, rfl⟩ := ih _ _ hn'
      exact ih2 _ _ hr'
theorem Ev.cost {J sp K n o m} (h : Ev s lines J sp K n o m) (ho : o ≠ .over) : ∀ n', (n - m ≤ n' → Ev s lines J sp K n' o (n' - (n - m))) ∧ (n' < n - m → Ev s lines J sp K n' .over 0) := by
  induction h with
  | tryOver => exact absurd rfl ho
  | @leafFail p xs i k sp K n h hp =>
    intro n'
    cases n' with
    | zero => exact ⟨fun hc => by omega, fun _ => .tryOver⟩
    | succ n' => exact ⟨fun hc => by rw [show n' + 1 - (n + 1 - n) = n' by omega]; exact .leafFail h hp, fun hc => by omega⟩
  | @leaf p xs i k sp K n o m h hp hn ih =>
    intro n'
    have hl := (Ev.left s lines hn).1
    cases n' with
    | zero => exact ⟨fun hc => by omega, fun _ => .tryOver⟩
    | succ n' => exact ⟨fun hc => by
        rw [show n' + 1 - (n + 1 - m) = n' - (n - m) by omega]
        exact Ev.leaf (s := s) (lines := lines) h hp ((ih ho n').1 (by omega)), fun hc => Ev.leaf (s := s) (lines := lines) h hp ((ih ho n').2 (by omega))⟩
  | @tryCat p xs i k sp K n o m h hn ih =>
    intro n'
    have hl := (Ev.left s lines hn).1
    cases n' with
    | zero => exact ⟨fun hc => by omega, fun _ => .tryOver⟩
    | succ n' => exact ⟨fun hc => by
        rw [show n' + 1 - (n + 1 - m) = n' - (n - m) by omega]
        exact Ev.tryCat (s := s) (lines := lines) h ((ih ho n').1 (by omega)), fun hc => Ev.tryCat (s := s) (lines := lines) h ((ih ho n').2 (by omega))⟩
  | @tryAlt p xs i k sp K n o m h hn ih =>
    intro n'
    have hl := (Ev.left s lines hn).1
    cases n' with
    | zero => exact ⟨fun hc => by omega, fun _ => .tryOver⟩
    | succ n' => exact ⟨fun hc => by
        rw [show n' + 1 - (n + 1 - m) = n' - (n - m) by omega]
        exact Ev.tryAlt (s := s) (lines := lines) h ((ih ho n').1 (by omega)), fun hc => Ev.tryAlt (s := s) (lines := lines) h ((ih ho n').2 (by omega))⟩
  | @tryRep p x i k sp K n o m h hn ih =>
    intro n'
    have hl := (Ev.left s lines hn).1
    cases n' with
    | zero => exact ⟨fun hc => by omega, fun _ => .tryOver⟩
    | succ n' => exact ⟨fun hc => by
        rw [show n' + 1 - (n + 1 - m) = n' - (n - m) by omega]
        exact Ev.tryRep (s := s) (lines := lines) h ((ih ho n').1 (by omega)), fun hc => Ev.tryRep (s := s) (lines := lines) h ((ih ho n').2 (by omega))⟩
  | @tryGroup p x i k sp K n o m h hn ih =>
    intro n'
    have hl := (Ev.left s lines hn).1
    cases n' with
    | zero => exact ⟨fun hc => by omega, fun _ => .tryOver⟩
    | succ n' => exact ⟨fun hc => by
        rw [show n' + 1 - (n + 1 - m) = n' - (n - m) by omega]
        exact Ev.tryGroup (s := s) (lines := lines) h ((ih ho n').1 (by omega)), fun hc => Ev.tryGroup (s := s) (lines := lines) h ((ih ho n').2 (by omega))⟩
  | catOne hn ih => intro n'; exact ⟨fun hc => .catOne ((ih ho n').1 hc), fun hc => .catOne ((ih ho n').2 hc)⟩
  | catMore hn ih => intro n'; exact ⟨fun hc => .catMore ((ih ho n').1 hc), fun hc => .catMore ((ih ho n').2 hc)⟩
  | repMay h hn ih => intro n'; exact ⟨fun hc => .repMay h ((ih ho n').1 hc), fun hc => .repMay h ((ih ho n').2 hc)⟩
  | repNot h hn ih => intro n'; exact ⟨fun hc => .repNot h ((ih ho n').1 hc), fun hc => .repNot h ((ih ho n').2 hc)⟩
  | repjEnd h hn ih => intro n'; exact ⟨fun hc => .repjEnd h ((ih ho n').1 hc), fun hc => .repjEnd h ((ih ho n').2 hc)⟩
  | nextMark hn ih => intro n'; exact ⟨fun hc => .nextMark ((ih ho n').1 hc), fun hc => .nextMark ((ih ho n').2 hc)⟩
  | nextCat hn ih => intro n'; exact ⟨fun hc => .nextCat ((ih ho n').1 hc), fun hc => .nextCat ((ih ho n').2 hc)⟩
  | nextRep hn ih => intro n'; exact ⟨fun hc => .nextRep ((ih ho n').1 hc), fun hc => .nextRep ((ih ho n').2 hc)⟩
  | catjNone => intro n'; exact ⟨fun hc => by rw [Nat.sub_self, Nat.sub_zero]; exact .catjNone, fun hc => by omega⟩
  | altNone => intro n'; exact ⟨fun hc => by rw [Nat.sub_self, Nat.sub_zero]; exact .altNone, fun hc => by omega⟩
  | nextDone => intro n'; exact ⟨fun hc => by rw [Nat.sub_self, Nat.sub_zero]; exact .nextDone, fun hc => by omega⟩
  | repjFail h => intro n'; exact ⟨fun hc => by rw [Nat.sub_self, Nat.sub_zero]; exact .repjFail h, fun hc => by omega⟩
  | catjHit hn hf ih => intro n'; exact ⟨fun hc => .catjHit ((ih ho n').1 hc) hf, fun hc => .catjHit ((ih ho n').2 hc) (by intro h; cases h)⟩
  | @catjMiss x xs i k c sp K n o m m' hn hr ih ih2 =>
    intro n'
    have h1 := (Ev.left s lines hn).1
    have h2 := (Ev.left s lines hr).1
    have hf : Out.fail ≠ .over := by intro h; cases h
    rcases Nat.lt_or_ge n' (n - m) with h3 | h3
    · exact ⟨fun hc => by omega, fun _ => .catjHit ((ih hf n').2 h3) (by intro h; cases h)⟩
    · refine ⟨fun hc => ?_, fun hc => ?_⟩
      · have h4 := (ih2 ho (n' - (n - m))).1 (by omega)
        rw [show n' - (n - m) - (m - m') = n' - (n - m') by omega] at h4
        exact .catjMiss ((ih hf n').1 h3) h4
      · exact .catjMiss ((ih hf n').1 h3) ((ih2 ho (n' - (n - m))).2 (by omega))
  | altHit hn hf ih => intro n'; exact ⟨fun hc => .altHit ((ih ho n').1 hc) hf, fun hc => .altHit ((ih ho n').2 hc) (by intro h; cases h)⟩
  | @altMiss x xs i k sp K n o m m' hn hr ih ih2 =>
    intro n'
    have h1 := (Ev.left s lines hn).1
    have h2 := (Ev.left s lines hr).1
    have hf : Out.fail ≠ .over := by intro h; cases h
    rcases Nat.lt_or_ge n' (n - m) with h3 | h3
    · exact ⟨fun hc => by omega, fun _ => .altHit ((ih hf n').2 h3) (by intro h; cases h)⟩
    · refine ⟨fun hc => ?_, fun hc => ?_⟩
      · have h4 := (ih2 ho (n' - (n - m))).1 (by omega)
        rw [show n' - (n - m) - (m - m') = n' - (n - m') by omega] at h4
        exact .altMiss ((ih hf n').1 h3) h4
      · exact .altMiss ((ih hf n').1 h3) ((ih2 ho (n' - (n - m))).2 (by omega))
  | repjHit hn hf ih => intro n'; exact ⟨fun hc => .repjHit ((ih ho n').1 hc) hf, fun hc => .repjHit ((ih ho n').2 hc) (by intro h; cases h)⟩
  | @repjMiss p x c i k lo q sp K n o m m' hn hr ih ih2 =>
    intro n'
    have h1 := (Ev.left s lines hn).1
    have h2 := (Ev.left s lines hr).1
    have hf : Out.fail ≠ .over := by intro h; cases h
    rcases Nat.lt_or_ge n' (n - m) with h3 | h3
    · exact ⟨fun hc => by omega, fun _ => .repjHit ((ih hf n').2 h3) (by intro h; cases h)⟩
    · refine ⟨fun hc => ?_, fun hc => ?_⟩
      · have h4 := (ih2 ho (n' - (n - m))).1 (by omega)
        rw [show n' - (n - m) - (m - m') = n' - (n - m') by omega] at h4
        exact .repjMiss ((ih hf n').1 h3) h4
      · exact .repjMiss ((ih hf n').1 h3) ((ih2 ho (n' - (n - m))).2 (by omega))
end
end Go.Proofs.Ythnpbopnpdlmnaa
