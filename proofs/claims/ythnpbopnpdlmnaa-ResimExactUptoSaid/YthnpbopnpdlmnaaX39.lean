/- The reference of layer 9: Parses. -/
import Derived.Test.YthnpbopnpdlmnaaX38
import Derived.Test.YthnpbopnpdlmnaaX13
import Derived.Test.YthnpbopnpdlmnaaX22
import Derived.Test.YthnpbopnpdlmnaaX27
import Derived.Deep.Upon
import Derived.ArgAppend
namespace Go.Proofs.Ythnpbopnpdlmnaa
open Go.RowKit
attribute [local go_sem] gives givesUpon

set_option maxRecDepth 100000 in
set_option maxHeartbeats 8000000 in
theorem rnone_any (w : World) (N : Nat) (hN : N ≤ 9) :
    Calls Try.prog 32 #[.int .i64 N] w fun e w' => ∃ a c, e = .returned (.slice a N c) ∧ Below w.heap.size w w' ∧ SpQ w' (.slice a N c) (unsetAll N) := by
  go_enter Try.func32, Try.ntmps32
  go_wp2_with fail
  go_loopw [3, 4] (fun v3 v4 wr => ∃ (k : Nat) (a : Option Addr) (c : Nat), v3 = .slice a k c ∧ v4 = .int .i64 k ∧ k ≤ N ∧ Hid (OwnSp wr w.heap.size (.slice a k c) (unsetAll k) ∧ Below w.heap.size w wr)) (fun _ v4 _ => N - (intOf v4).toNat)
  case atStart => exact ⟨0, none, 0, rfl, rfl, Nat.zero_le _, OwnSp.nil _ _, Below.refl _ _⟩
  case round =>
    obtain ⟨k, a, c, rfl, rfl, hk, HX⟩ := hrel
    by_cases hlt : k < N
    · have hltI : (k : Int) < N := by omega
      have hlk : (unsetAll k).length = k := by simp [unsetAll]
      have hsz := HX.out.2.size
      go_wp2_with (at_builtin; refine wpList_append_sp rfl _ _ rfl w.heap.size _ (unsetAll k) [(-1, -1)] _ rfl ?c0 rfl (SpQ.lit (Row.new (by simp))) (by simp) ?c2 ?c3 ?_)
      case c0 => exact HX.out.1.below ((Below.refl _ _).alloc (Nat.le_refl _) _)
      case c2 => rw [hlk]; simp; omega
      case c3 => simp; omega
      intro a2 n2 c2 w3 hn2 hown hgrow hnw
      have hu : unsetAll k ++ [((-1 : Int), (-1 : Int))] = unsetAll (k + 1) := (List.replicate_succ' ..).symm
      have hn3 : n2 = k + 1 := by simpa [unsetAll] using hn2
      rw [hu] at hown
      subst hn3
      have HN := hid (⟨hown, (HX.out.2.alloc hsz _).grown hgrow (by simp; omega) fun g hg => (HX.out.1.lt g hg).1⟩ : _ ∧ Below w.heap.size w w3)
      clear hown hgrow hnw hn2 hu
      go_wp2_with fail
      refine ⟨⟨k + 1, a2, c2, rfl, by go_num, by omega, HN.out⟩, ?_⟩
      simp [intOf] <;> omega
    · obtain rfl : k = N := by omega
      have hltI : ¬ (k : Int) < (k : Int) := by omega
      go_wp2_with fail
      go_ret
      exact ⟨a, c, rfl, HX.out.2, HX.out.1.spb.q⟩
set_option maxRecDepth 100000 in
set_option maxHeartbeats 16000000 in
theorem RParses_any (w : World) (t : Re) (cs : List Value) (s : ByteArray) (at_ : Int) (lines : Bool) (hin : t.In w cs) (hsz : t.size ≤ 20) (hs : s.size ≤ 1000000) :
    Calls Try.prog 12 #[.agg cs.toArray, .string s, .int .i64 at_, .bool lines] w (ParsesPost w (parsesR t s at_ lines)) := by
  cases t with
  | mk p xs =>
  have hin2 := hin
  rw [Re.In] at hin2
  obtain ⟨ad, cap, rfl, -⟩ := hin2
  simp only [Pay.cells] at hin ⊢
  have hb1 : Below w.heap.size w (w.alloc (.cells #[.int .i64 p.op, .int .u64 p.set.a, .int .u64 p.set.b, .int .u64 p.set.c, .int .u64 p.set.d, .int .i64 p.lo, .int .i64 p.hi, .int .i64 p.gr, .slice ad xs.length cap] 28)) := (Below.refl _ _).alloc (Nat.le_refl _) _
  have HR := hid (Row.new (w := w) (cs := [.int .i64 p.op, .int .u64 p.set.a, .int .u64 p.set.b, .int .u64 p.set.c, .int .u64 p.set.d, .int .i64 p.lo, .int .i64 p.hi, .int .i64 p.gr, .slice ad xs.length cap]) (T := 28) rfl)
  have HIN := hid hin
  have HB1 := hid hb1
  have q0 := HR.out.c9
  have hck := CheckRef_any (.mk p xs) (w.alloc (.cells #[.int .i64 p.op, .int .u64 p.set.a, .int .u64 p.set.b, .int .u64 p.set.c, .int .u64 p.set.d, .int .i64 p.lo, .int .i64 p.hi, .int .i64 p.gr, .slice ad xs.length cap] 28)) [.int .i64 p.op, .int .u64 p.set.a, .int .u64 p.set.b, .int .u64 p.set.c, .int .u64 p.set.d, .int .i64 p.lo, .int .i64 p.hi, .int .i64 p.gr, .slice ad xs.length cap] (hin.below hb1) (by omega)
  have HCK := hid hck
  clear hin hb1 hck
  go_enter Try.func12, Try.ntmps12
  go_wp2_with fail
  refine HCK.out.mono ?_
  rintro e z ⟨rfl, hb⟩
  have HZ := hid (⟨HR.out.below hb HR.out.lt, HB1.out.trans (hb.mono HB1.out.size)⟩ : Row z w.heap.size [.int .i64 p.op, .int .u64 p.set.a, .int .u64 p.set.b, .int .u64 p.set.c, .int .u64 p.set.d, .int .i64 p.lo, .int .i64 p.hi, .int .i64 p.gr, .slice ad xs.length cap] 28 ∧ Below w.heap.size w z)
  clear hb q0 HCK HR HB1
  have q0 := HZ.out.1.c9
  obtain ⟨er, her⟩ : ∃ er, er = (Re.mk p xs).err := ⟨_, rfl⟩
  have HER := hid her
  rw [← her]
  clear her
  by_cases he : er = 0
  · by_cases hr : at_ < 0 ∨ (s.size : Int) < at_
    · have hc : chk (.mk p xs) s at_ = 2 := by unfold chk; rw [if_neg (by rw [← HER.out]; simp [he]), if_pos hr]
      have hp : parsesR (.mk p xs) s at_ lines = ([], 2) := by unfold parsesR; rw [hc]; rfl
      have HPR := hid hp
      subst he
      have HZ2 := hid HZ.out.2
      clear hc hp HER HZ
      have hr2 : at_ < 0 ∨ (¬ at_ < 0 ∧ (s.size : Int) < at_) := by omega
      clear hr
      rcases hr2 with hr | ⟨hr1, hr⟩
      all_goals
        go_wp2_with fail
        go_ret2
        rw [HPR.out]
        exact ⟨none, 0, rfl, HZ2.out, .inl ⟨rfl, rfl⟩⟩
    · have hc : chk (.mk p xs) s at_ = 0 := by unfold chk; rw [if_neg (by rw [← HER.out]; simp [he]), if_neg hr]
      obtain ⟨h1, h2, h3⟩ := chk_zero hc
      obtain ⟨f, rfl⟩ : ∃ f : Nat, at_ = f := ⟨at_.toNat, by omega⟩
      obtain ⟨ok, hg9, -⟩ := Re.ok_err h1
      have hrep := Re.reps_err h1
      have hpar := rpar_any w (Re.mk p xs).groups hg9 s hs lines (.mk p xs) ok hrep
      have hf : f ≤ s.size := by omega
      have hfs : ¬ (s.size : Int) < (f : Int) := by omega
      have hf0 : ¬ (f : Int) < 0 := by omega
      have hpr : parsesR (.mk p xs) s f lines = match parses s.data.toList lines (.mk p xs) f (unsetAll (Re.mk p xs).groups) with | none => ([], 11) | some l => (l, 0) := by
        unfold parsesR; rw [if_neg (by simp [hc])]; rfl
      have HC := hid (fun (x : World) (hx : Grow z.drew x) => (HZ.out.1.below (grow_below hx) HZ.out.1.lt).c9)
      have hgc := fun (x : World) (hx : Grow z.drew x) => GroupsRef_any (.mk p xs) x [.int .i64 p.op, .int .u64 p.set.a, .int .u64 p.set.b, .int .u64 p.set.c, .int .u64 p.set.d, .int .i64 p.lo, .int .i64 p.hi, .int .i64 p.gr, .slice ad xs.length cap] (HIN.out.below (HZ.out.2.trans ((grow_below hx).mono HZ.out.2.size))) (by omega)
      have hnn := fun (x : World) => rnone_any x (Re.mk p xs).groups hg9
      have hch := fun (x : World) (hx : Grow z.drew x) (a : Option Addr) (c : Nat) (hsq : SpQ x (.slice a (Re.mk p xs).groups c) (unsetAll (Re.mk p xs).groups)) => hpar x [.int .i64 p.op, .int .u64 p.set.a, .int .u64 p.set.b, .int .u64 p.set.c, .int .u64 p.set.d, .int .i64 p.lo, .int .i64 p.hi, .int .i64 p.gr, .slice ad xs.length cap] a c (unsetAll (Re.mk p xs).groups) f HIN.out ok hsz (HZ.out.2.trans ((grow_below hx).mono HZ.out.2.size)) (by simpa [unsetAll] using hsq) (unsetAll_ok _ _) hf
      have hul : (unsetAll (Re.mk p xs).groups).length = (Re.mk p xs).groups := by simp [unsetAll]
      rw [hul] at hch
      obtain ⟨g, hg⟩ : ∃ g, g = (Re.mk p xs).groups := ⟨_, rfl⟩
      rw [← hg] at hgc hnn hch hpr
      obtain ⟨r, hr⟩ : ∃ r, r = parses s.data.toList lines (.mk p xs) f (unsetAll g) := ⟨_, rfl⟩
      rw [← hr] at hch hpr
      have HGC := hid hgc
      have HNN := hid hnn
      have HCH := hid hch
      have HPR := hid hpr
      rw [he]
      clear hc h1 h2 h3 ok hrep hpar hgc hnn hch hpr hul hg hr hg9 hf
      go_wp2_with fail
      refine wp_region_two 8 14 rfl (Grow) (by kernel_rfl) (by kernel_rfl) (Grow.refl) (fun _ _ _ => Grow.trans) ?_
      simp only [fill, dstOf, Act.put, List.take_succ_cons, List.take_zero, List.getElem?_toArray, List.getElem?_cons_zero, List.getElem?_cons_succ, Option.bind_some, List.setIfInBounds_toArray, List.set_cons_zero, List.set_cons_succ]
      refine Plan.det 1 rfl (Grow.refl) ?_
      apply Exists.intro
      refine ⟨fun vs x hR hF K hK => ?_, ?_⟩
      · clear hF
        go_simp
        exact hK _ _ (Grow.refl _) rfl
      refine Plan.det 2 rfl (Grow.refl) ?_
      apply Exists.intro
      refine ⟨fun vs x hR hF K hK => ?_, ?_⟩
      · clear hF
        go_simp
        exact hK _ _ (Grow.refl _) rfl
      refine Plan.det 3 rfl (Grow.refl) ?_
      apply Exists.intro
      refine ⟨fun vs x hR hF K hK => ?_, ?_⟩
      · have f0 := hF 1 _ _ rfl rfl; have f1 := hF 0 _ _ rfl rfl; clear hF
        go_simp
        exact hK _ _ (Grow.refl _) rfl
      refine Plan.det 4 rfl (Grow.refl) ?_
      apply Exists.intro
      refine ⟨fun vs x hR hF K hK => ?_, ?_⟩
      · have hc := HC.out x hR; clear hF
        go_simp
        exact hK _ _ (Grow.refl _) rfl
      refine Plan.det 5 rfl (Grow.refl) ?_
      apply Exists.intro
      refine ⟨fun vs x hR hF K hK => ?_, ?_⟩
      · clear hF
        go_simp
        exact hK _ _ (Grow.refl _) rfl
      refine Plan.det 6 rfl (Grow.refl) ?_
      apply Exists.intro
      refine ⟨fun vs x hR hF K hK => ?_, ?_⟩
      · have hc := HC.out x hR; clear hF
        go_simp
        exact hK _ _ (Grow.refl _) rfl
      refine Plan.det 7 rfl (Grow.refl) ?_
      apply Exists.intro
      refine ⟨fun vs x hR hF K hK => ?_, ?_⟩
      · have f5 := hF 0 _ _ rfl rfl; clear hF
        go_simp
        refine (HGC.out x hR).mono ?_
        rintro e x1 ⟨rfl, hbe⟩
        exact ⟨_, rfl, hK _ _ hbe rfl⟩
      refine Plan.rel 8 rfl (Grow.refl) (fun v y => ∃ (a2 : Option Addr) (c2 : Nat), v = .slice a2 g c2 ∧ SpQ y (.slice a2 g c2) (unsetAll g)) (fun v y z hR ⟨a1, c1, h1, h2⟩ => ⟨a1, c1, h1, h2.below hR⟩) (fun vs x hR hF K hK => ?_) ?_
      · have f6 := hF 0 _ _ rfl rfl
        go_simp
        refine (HNN.out x).mono ?_
        rintro e x1 ⟨a2, c2, rfl, hbe, h1⟩
        exact ⟨_, rfl, hK _ _ hbe ⟨a2, c2, rfl, h1⟩⟩
      refine PlanEnd (by simp) (fun vs x hR hF => ?_)
      have f0 := hF 7 _ _ rfl; have f1 := hF 6 _ _ rfl; have f2 := hF 5 _ _ rfl; have f3 := hF 4 _ _ rfl; have f4 := hF 3 _ _ rfl; have f5 := hF 2 _ _ rfl; have f6 := hF 1 _ _ rfl; have f7 := hF 0 _ _ rfl
      clear hF
      simp only [f0, f1, f2, f3, f4, f5, f6]
      clear f0 f1 f2 f3 f4 f5 f6
      intro oo hoo KQ hK
      obtain rfl := Option.some.inj hoo
      clear hoo
      obtain ⟨a2, c3, ev2, hs2⟩ := f7
      simp only [ev2]
      clear ev2
      have HBX := hid (grow_below hR)
      have hcc := HCH.out x hR a2 c3 hs2
      clear hR hs2
      go_simp
      refine hcc.mono ?_
      clear hcc
      rintro e w' ⟨a9, l9, c9, rfl, hb9, h9, h9n⟩
      have HB9 := hid (HZ.out.2.trans ((HBX.out.trans (hb9.mono HBX.out.size)).mono HZ.out.2.size))
      have HPX : Hid (∀ l, r = some l → l9 = l.length ∧ PsQ (w.heap.size ≤ ·) w' (.slice a9 l9 c9) l) := fun l hl => ⟨(h9 l hl).1, (h9 l hl).2.mono fun b _ hb => Nat.le_trans (Nat.le_trans HZ.out.2.size HBX.out.size) hb⟩
      clear hb9 h9 h9n
      refine ⟨_, rfl, hK _ _ ?_⟩
      clear hK
      unfold AfterC
      simp only [fill, dstOf, Act.put, List.getElem?_toArray, List.getElem?_cons_zero, List.getElem?_cons_succ, Option.bind_some, List.setIfInBounds_toArray, List.set_cons_zero, List.set_cons_succ, List.drop_succ_cons, List.drop_zero]
      refine Plan.det 10 rfl (fun _ => rfl) ?_
      apply Exists.intro
      refine ⟨fun vs x hR hF K hK => ?_, ?_⟩
      · have f8 := hF 0 _ _ rfl rfl; clear hF
        go_simp
        exact hK _ _ rfl rfl
      refine Plan.det 11 rfl (fun _ => rfl) ?_
      apply Exists.intro
      refine ⟨fun vs x hR hF K hK => ?_, ?_⟩
      · have f9 := hF 0 _ _ rfl rfl; clear hF
        go_simp
        exact hK _ _ rfl rfl
      refine Plan.det 12 rfl (fun _ => rfl) ?_
      apply Exists.intro
      refine ⟨fun vs x hR hF K hK => ?_, ?_⟩
      · have f9 := hF 1 _ _ rfl rfl; clear hF
        go_simp
        exact hK _ _ rfl rfl
      refine Plan.det 13 rfl (fun _ => rfl) ?_
      apply Exists.intro
      refine ⟨fun vs x hR hF K hK => ?_, ?_⟩
      · have f8 := hF 3 _ _ rfl rfl; have f9 := hF 2 _ _ rfl rfl; have f10 := hF 1 _ _ rfl rfl; clear hF
        go_simp
        exact hK _ _ rfl rfl
      refine Plan.det 14 rfl (fun _ => rfl) ?_
      apply Exists.intro
      refine ⟨fun vs x hR hF K hK => ?_, ?_⟩
      · have f8 := hF 4 _ _ rfl rfl; have f9 := hF 3 _ _ rfl rfl; have f10 := hF 2 _ _ rfl rfl; have f11 := hF 1 _ _ rfl rfl; have f12 := hF 0 _ _ rfl rfl; clear hF
        go_simp
        exact hK _ _ rfl rfl
      refine Plan.nil (fun vs x hR2 hF => ?_)
      have f8 := hF 5 _ _ rfl; have f9 := hF 4 _ _ rfl; have f10 := hF 3 _ _ rfl; have f11 := hF 2 _ _ rfl; have f12 := hF 1 _ _ rfl; have f13 := hF 0 _ _ rfl
      clear hF
      simp only [f8, f9, f10, f11, f12, f13]
      clear f8 f9 f10 f11 f12 f13
      subst hR2
      simp only [List.drop_succ_cons, List.drop_nil]
      clear HC q0 HGC HNN HCH
      cases r with
      | none =>
        simp only [Option.isSome_none]
        go_wp2_with fail
        go_ret2
        rw [HPR.out]
        exact ⟨none, 0, rfl, HB9.out, .inl ⟨rfl, rfl⟩⟩
      | some l =>
        simp only [Option.isSome_some]
        go_wp2_with fail
        go_ret2
        obtain ⟨rfl, hps⟩ := HPX.out l rfl
        rw [HPR.out]
        exact ⟨a9, c9, rfl, HB9.out, hps⟩
  · have hc : chk (.mk p xs) s at_ = er := by unfold chk; rw [if_pos (by rw [← HER.out]; exact he), HER.out]
    have hp : parsesR (.mk p xs) s at_ lines = ([], er) := by unfold parsesR; rw [hc, if_pos he]
    have HPR := hid hp
    have HZ2 := hid HZ.out.2
    clear hc hp HER HZ
    go_wp2_with fail
    go_ret2
    rw [HPR.out]
    exact ⟨none, 0, rfl, HZ2.out, .inl ⟨rfl, rfl⟩⟩
end Go.Proofs.Ythnpbopnpdlmnaa

/- append of spans to one span just laid. -/
namespace Go.Proofs.Ythnpbopnpdlmnaa
open Go.RowKit

theorem gives_append_head {o : Oper} {a : Act} {w : World} {K : Value → World → Prop} (s x : Operand)
    (ho : o.op = .call { callee := .builtin .append, args := #[s, x], argTypes := #[38, 38] })
    (b : Nat) (x1 x2 : Int) (sp : Spans) (u : Value) (hs : a.eval s = .slice (some ⟨b, 0, none⟩) 1 1) (hr : Row w b [.int .i64 x1, .int .i64 x2] 47) (hx : a.eval x = u) (hsrc : SpQ w u sp) (hl : sp.length ≤ 100)
    (h : ∀ a' c' w', Below w.heap.size w w' → SpQ w' (.slice a' (sp.length + 1) c') ((x1, x2) :: sp) → K (.slice a' (sp.length + 1) c') w') : gives Try.prog o a w K := by
  obtain ⟨i0, hi, hz0, hz1, hz2⟩ := info_parts info_span
  obtain ⟨sa, c, rfl, h1⟩ := hsrc
  rcases h1 with rfl | ⟨b2, more, rfl, hr2⟩
  · have hsr : Src Try.prog i0.size 38 (.slice sa 0 c) 0 [] w := by
      cases sa with
      | none => exact Src.ofNil w Try.underlying38 c
      | some ad => exact Src.ofSlice w Try.underlying38 ad 0 c [] (by simp) (fun j u hj => by simp at hj) (fun u hu => by cases hu)
    have hrun := run_append_nothing (P := Try.prog) w 38 38 o.type 47 i0 Try.underlying38 hi (some ⟨b, 0, none⟩) 1 1 (Nat.le_refl _) (.slice sa 0 c) hsr
    have hx' : a.eval x = .slice sa 0 c := hx
    unfold gives
    simp [execOp, ho, resolve, invoke, builtin, hs, hx', hrun, Result.andThen, givesUpon]
    exact h _ _ w (Below.refl _ _) ⟨_, _, rfl, .inr ⟨b, [], rfl, by simpa [spc] using hr⟩⟩
  · have hx' : a.eval x = .slice (some ⟨b2, 0, none⟩) sp.length c := hx
    by_cases hsp : sp = []
    · subst hsp
      have hsr : Src Try.prog i0.size 38 (.slice (some ⟨b2, 0, none⟩) 0 c) 0 [] w := Src.ofSlice w Try.underlying38 _ 0 c [] (by simp) (fun j u hj => by simp at hj) (fun u hu => by cases hu)
      have hrun := run_append_nothing (P := Try.prog) w 38 38 o.type 47 i0 Try.underlying38 hi (some ⟨b, 0, none⟩) 1 1 (Nat.le_refl _) _ hsr
      have hx2 : a.eval x = .slice (some ⟨b2, 0, none⟩) 0 c := hx
      unfold gives
      simp [execOp, ho, resolve, invoke, builtin, hs, hx2, hrun, Result.andThen, givesUpon]
      exact h _ _ w (Below.refl _ _) ⟨_, _, rfl, .inr ⟨b, [], rfl, by simpa [spc] using hr⟩⟩
    have hpos : 0 < sp.length := List.length_pos_iff.2 hsp
    obtain ⟨v', w', hrun, hown, hg⟩ := run_append_arg_grows (P := Try.prog) w 38 o.type 47 i0 (.agg #[.int .i64 0, .int .i64 0]) 2 16 Try.underlying38 hi hz0 hz1 hz2 rfl (by decide) ⟨b, 0, none⟩ 1 1 [.int .i64 x1, .int .i64 x2] rfl (fun j u hj => by rw [Addr.add_lit, Nat.zero_add, hr.cell j]; exact hj) ⟨b2, 0, none⟩ sp.length c (spc sp) (spc_length sp) (fun j u hj => by rw [Addr.add_lit, Nat.zero_add, hr2.cell j]; exact List.getElem?_append_left (List.getElem?_eq_some_iff.1 hj).1 ▸ hj) (by omega) (by unfold maxLen; omega) (by omega)
    obtain ⟨a', c', e⟩ := ownsRow_shape hown
    subst e
    have hn : 1 + sp.length = sp.length + 1 := by omega
    rw [hn] at hown hrun
    have hos : OwnSp w' w.heap.size (.slice a' (sp.length + 1) c') ((x1, x2) :: sp) := ⟨(fun e => by cases e), (by simpa [spc] using hown)⟩
    unfold gives
    simp [execOp, ho, resolve, invoke, builtin, hs, hx', hrun, Result.andThen, givesUpon]
    exact h _ _ w' ⟨hg.os, hg.tape, hg.output, hg.size, fun k hk => hg.block k hk (by simp)⟩ hos.spb.q
theorem results_cell_tmp2 {P : Program} {fn : Func} {p t1 t2 : Tmp} {ty : TypeId} (h : fn.results = #[.cell p ty, .tmp t1, .tmp t2]) (tmps : Array Value) (w : World) (g : Nat) (T : TypeId) (cs : Array Value) (fr : Nat × Nat) (d : TypeDesc)
    (hp : tmps.getD p undef = .pointer (some ⟨g, 0, none⟩)) (hg : w.heap[g]? = some (.cells cs T fr))
    (hu : P.underlying ty = some d) (hd : (match d with | .struct _ | .array _ _ => true | _ => false) = true) (hi : (P.info? ty).map (·.size) = some cs.size) :
    (results fn tmps).run P w = .ok (.tuple #[.agg cs, tmps.getD t1 undef, tmps.getD t2 undef]) w := by
  have hp' : tmps[p]?.getD undef = .pointer (some ⟨g, 0, none⟩) := by simpa using hp
  simp [results, h, hp', asAddr, run_loadVar_row w g T ty cs fr d hg hu hd hi]
end Go.Proofs.Ythnpbopnpdlmnaa
