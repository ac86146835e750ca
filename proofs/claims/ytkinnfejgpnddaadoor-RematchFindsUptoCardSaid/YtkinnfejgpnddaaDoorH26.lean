/- The program of layer 9: Parses. -/
import Derived.Test.YtkinnfejgpnddaaDoorH25
import Derived.Test.YtkinnfejgpnddaaDoorH04
import Derived.Deep.Upon
import Derived.ArgAppend
namespace Go.Proofs.YtkinnfejgpnddaaDoor
open Go.RowKit
attribute [local go_sem] gives givesUpon

set_option maxRecDepth 100000 in
set_option maxHeartbeats 32000000 in
theorem PParses_any (w : World) (t : Re) (cs : List Value) (s : ByteArray) (at_ : Int) (lines : Bool) (hin : t.In w cs) (hsz : t.size ≤ 20) (hs : s.size ≤ 1000000) (ht : Tabs9 w) :
    Calls Tryd.prog 12 #[.agg cs.toArray, .string s, .int .i64 at_, .bool lines] w (ParsesPost w (parsesR t s at_ lines)) := by
  cases t with
  | mk p xs =>
  have hin2 := hin
  rw [Re.In] at hin2
  obtain ⟨ad, cap, rfl, -⟩ := hin2
  simp only [Pay.cells] at hin ⊢
  have hb1 : Below w.heap.size w (w.alloc (.cells #[.int .i64 p.op, .int .u64 p.set.a, .int .u64 p.set.b, .int .u64 p.set.c, .int .u64 p.set.d, .int .i64 p.lo, .int .i64 p.hi, .int .i64 p.gr, .slice ad xs.length cap] 28)) := (Below.refl _ _).alloc (Nat.le_refl _) _
  have HR := hid (Row.new (w := w) (cs := [.int .i64 p.op, .int .u64 p.set.a, .int .u64 p.set.b, .int .u64 p.set.c, .int .u64 p.set.d, .int .i64 p.lo, .int .i64 p.hi, .int .i64 p.gr, .slice ad xs.length cap]) (T := 28) rfl)
  have HIN := hid hin
  have HB1 := hid hb1
  have HT := hid ht
  have q0 := HR.out.c9
  have HCK := hid (pcheck_any (w.alloc (.cells #[.int .i64 p.op, .int .u64 p.set.a, .int .u64 p.set.b, .int .u64 p.set.c, .int .u64 p.set.d, .int .i64 p.lo, .int .i64 p.hi, .int .i64 p.gr, .slice ad xs.length cap] 28)) (.mk p xs) [.int .i64 p.op, .int .u64 p.set.a, .int .u64 p.set.b, .int .u64 p.set.c, .int .u64 p.set.d, .int .i64 p.lo, .int .i64 p.hi, .int .i64 p.gr, .slice ad xs.length cap] s at_ (hin.below hb1) hsz hs)
  clear hin hb1 ht
  go_enter Tryd.func12, Tryd.ntmps12
  go_wp2_with fail
  refine HCK.out.mono ?_
  rintro e z ⟨rfl, hb⟩
  have HZ := hid (⟨HR.out.below hb HR.out.lt, HB1.out.trans (hb.mono HB1.out.size)⟩ : Row z w.heap.size [.int .i64 p.op, .int .u64 p.set.a, .int .u64 p.set.b, .int .u64 p.set.c, .int .u64 p.set.d, .int .i64 p.lo, .int .i64 p.hi, .int .i64 p.gr, .slice ad xs.length cap] 28 ∧ Below w.heap.size w z)
  clear hb q0 HCK HR HB1
  obtain ⟨er, her⟩ : ∃ er, er = chk (.mk p xs) s at_ := ⟨_, rfl⟩
  have HER := hid her
  rw [← her]
  clear her
  by_cases he : er = 0
  case neg =>
    have hp : parsesR (.mk p xs) s at_ lines = ([], er) := by unfold parsesR; rw [← HER.out, if_pos he]
    have HPR := hid hp
    clear hp HER
    go_wp2_with fail
    go_ret2
    rw [HPR.out]
    exact ⟨none, 0, rfl, HZ.out.2, .inl ⟨rfl, rfl⟩⟩
  have hc : chk (.mk p xs) s at_ = 0 := by rw [← HER.out, he]
  obtain ⟨h1, h2, h3⟩ := chk_zero hc
  obtain ⟨f, rfl⟩ : ∃ f : Nat, at_ = f := ⟨at_.toNat, by omega⟩
  obtain ⟨ok, hg9, -⟩ := Re.ok_err h1
  have hrep := Re.reps_err h1
  have hf : f ≤ s.size := by omega
  have hpr : parsesR (.mk p xs) s f lines = match parses s.data.toList lines (.mk p xs) f (unsetAll (Re.mk p xs).groups) with | none => ([], 11) | some l => (l, 0) := by
    unfold parsesR; rw [if_neg (by simp [hc])]; rfl
  have hbm : Below w.heap.size w (z.alloc (.cells #[.string s, .bool lines] 66)) := HZ.out.2.alloc HZ.out.2.size _
  have hall := pall_any (z.alloc (.cells #[.string s, .bool lines] 66)) p xs [.int .i64 p.op, .int .u64 p.set.a, .int .u64 p.set.b, .int .u64 p.set.c, .int .u64 p.set.d, .int .i64 p.lo, .int .i64 p.hi, .int .i64 p.gr, .slice ad xs.length cap] z.heap.size s lines f (HIN.out.below hbm) ok hrep hg9 hsz hs (Row.new rfl) hf (HT.out.on hbm)
  have hsl : s.data.toList.length = s.size := by rw [Array.length_toList]; rfl
  have hlen := fun l (h : parses s.data.toList lines (.mk p xs) f (unsetAll (Re.mk p xs).groups) = some l) => parses_len ok (by rw [hsl]; exact hf) (by rw [hsl]; exact unsetAll_ok _ _) h
  have hpok := fun l (h : parses s.data.toList lines (.mk p xs) f (unsetAll (Re.mk p xs).groups) = some l) => parses_ok s.data.toList lines _ (.mk p xs) f _ l ok (by rw [hsl]; exact hf) (by rw [hsl]; exact unsetAll_ok _ _) h
  obtain ⟨r, hr⟩ : ∃ r, r = parses s.data.toList lines (.mk p xs) f (unsetAll (Re.mk p xs).groups) := ⟨_, rfl⟩
  rw [← hr] at hpr hall hlen hpok
  obtain ⟨N, hN⟩ : ∃ N, N = (Re.mk p xs).groups := ⟨_, rfl⟩
  rw [← hN] at hpok hg9
  have HALL := hid hall
  have HPR := hid hpr
  have HLEN := hid hlen
  have HPOK := hid hpok
  have q0 := (HZ.out.1.alloc (.cells #[.string s, .bool lines] 66)).c9
  have HBM := hid hbm
  subst he
  clear hc h1 h2 h3 ok hrep hf hpr hbm hall hsl hlen hpok hr hN HER
  go_wp2_with fail
  refine HALL.out.mono ?_
  rintro e z2 ⟨hb2, a9, c9, rfl, hps⟩
  have HB2 := hid (HBM.out.trans (hb2.mono HBM.out.size))
  clear q0 hb2
  cases r with
  | none =>
    clear hps
    simp only [Option.isSome_none, Option.getD_none, List.length_nil]
    go_wp2_with fail
    go_ret2
    rw [HPR.out]
    exact ⟨none, 0, rfl, HB2.out, .inl ⟨rfl, rfl⟩⟩
  | some l =>
    simp only [Option.isSome_some, Option.getD_some] at hps ⊢
    have hl4 := HLEN.out l rfl
    obtain ⟨n, hnn⟩ : ∃ n, n = l.length := ⟨_, rfl⟩
    have HNN := hid hnn
    rw [← hnn] at hps hl4 ⊢
    have HPS := hid hps
    obtain ⟨ZS, hZS⟩ : ∃ ZS, ZS = z2.heap.size := ⟨_, rfl⟩
    have HZS := hid hZS
    clear hps hnn hZS
    go_wp2_with fail
    go_loopw [13, 37] (fun v13 v37 wr => ∃ (j : Nat) (na : Option Addr) (nn nc : Nat), v13 = .slice na nn nc ∧ v37 = .int .i64 j ∧ j ≤ n ∧ Hid (nn = (l.take j).length ∧ OwnP wr ZS (.slice na nn nc) (l.take j) ∧ Below ZS z2 wr)) (fun _ v37 _ => n - (intOf v37).toNat)
    case atStart => exact ⟨0, none, 0, 0, rfl, rfl, Nat.zero_le _, by simp, OwnP.nil _ _, Below.refl _ _⟩
    case round =>
      obtain ⟨j, na, nn, nc, rfl, rfl, hj, HX⟩ := hrel
      have hbz : Below z2.heap.size z2 wr := by rw [← HZS.out]; exact HX.out.2.2
      have HPW := hid (HPS.out.below hbz)
      have HBZ := hid hbz
      clear hbz
      by_cases hlt : j < n
      · have hltJ : (j : Int) < (n : Int) := by omega
        obtain ⟨b, cc, u1, u2, va2, vc2, hq, ev, hbl, -, -, p0, p1, hsq⟩ := HPW.out.get (k := j) (by have := HNN.out; omega)
        injection ev with e1 e2 e3
        subst e1; subst e3
        clear e2
        have hpk := HPOK.out l rfl (u1, u2) (List.mem_of_getElem? hq)
        have hul : u2.length ≤ 9 := by have := hpk.2.2.1; dsimp only at this; omega
        have hal : Below wr.heap.size wr (wr.alloc (.cells #[.int .i64 u1, .slice va2 u2.length vc2] 48)) := (Below.refl _ _).alloc (Nat.le_refl _) _
        have HY := hid (⟨Row.new (w := wr) (cs := [.int .i64 u1, .slice va2 u2.length vc2]) (T := 48) rfl, hsq.below hal, hal⟩ : Row (wr.alloc (.cells #[.int .i64 u1, .slice va2 u2.length vc2] 48)) wr.heap.size _ _ ∧ SpQ _ _ _ ∧ _)
        have HC := hid (fun (x : World) (hx : Grow ((wr.alloc (.cells #[.int .i64 u1, .slice va2 u2.length vc2] 48))).drew x) => (HY.out.1.grow hx).two9)
        have HCL := hid (fun (x : World) (hx : Grow ((wr.alloc (.cells #[.int .i64 u1, .slice va2 u2.length vc2] 48))).drew x) => pclones_any x va2 vc2 u2 (HY.out.2.1.below (grow_below hx)) hul)
        have HQ := hid hq
        clear hq hpk hal hsq
        go_upto_region 11 with fail
        clear p0 p1
        refine wp_region_inv 8 (Grow) (by kernel_rfl) (by kernel_rfl) (Grow.refl) (fun _ _ _ => Grow.trans) ?_
        simp only [fill, dstOf, Act.put, List.take_succ_cons, List.take_zero, List.getElem?_toArray, List.getElem?_cons_zero, List.getElem?_cons_succ, Option.bind_some, List.setIfInBounds_toArray, List.set_cons_zero, List.set_cons_succ]
        refine Plan.det 1 rfl (Grow.refl) ?_
        apply Exists.intro
        refine ⟨fun vs x hR hF K hK => ?_, ?_⟩
        · clear hF
          go_simp
          exact hK _ _ (Grow.refl _) rfl
        refine Plan.det 2 rfl (Grow.refl) ?_
        apply Exists.intro
        refine ⟨fun vs x hR hF K hK => ?_, ?_⟩
        · clear hF
          go_simp
          exact hK _ _ (Grow.refl _) rfl
        refine Plan.det 3 rfl (Grow.refl) ?_
        apply Exists.intro
        refine ⟨fun vs x hR hF K hK => ?_, ?_⟩
        · have f1 := hF 0 _ _ rfl rfl; have hc := HC.out x hR; clear hF
          go_simp
          exact hK _ _ (Grow.refl _) rfl
        refine Plan.det 4 rfl (Grow.refl) ?_
        apply Exists.intro
        refine ⟨fun vs x hR hF K hK => ?_, ?_⟩
        · clear hF
          go_simp
          exact hK _ _ (Grow.refl _) rfl
        refine Plan.det 5 rfl (Grow.refl) ?_
        apply Exists.intro
        refine ⟨fun vs x hR hF K hK => ?_, ?_⟩
        · have f3 := hF 0 _ _ rfl rfl; have hc := HC.out x hR; clear hF
          go_simp
          exact hK _ _ (Grow.refl _) rfl
        refine Plan.rel 6 rfl (Grow.refl) (fun v y => ∃ (a2 : Option Addr) (c2 : Nat), v = .slice a2 u2.length c2 ∧ SpQ y (.slice a2 u2.length c2) u2) (fun v y1 y2 hR ⟨a2, c2, h1, h2⟩ => ⟨a2, c2, h1, h2.below hR⟩) (fun vs x hR hF K hK => ?_) ?_
        · have f4 := hF 0 _ _ rfl rfl
          go_simp
          refine (HCL.out x hR).mono ?_
          rintro e x1 ⟨a2, c2, rfl, hbe, h1⟩
          exact ⟨_, rfl, hK _ _ hbe ⟨a2, c2, rfl, h1⟩⟩
        refine Plan.rel 7 rfl (Grow.refl) (fun v y => ∃ (a2 : Option Addr) (c2 : Nat), v = .agg #[.int .i64 u1, .slice a2 u2.length c2] ∧ SpQ y (.slice a2 u2.length c2) u2) (fun v y1 y2 hR ⟨a2, c2, h1, h2⟩ => ⟨a2, c2, h1, h2.below hR⟩) (fun vs x hR hF K hK => ?_) ?_
        · have f2 := hF 3 _ _ rfl rfl; have f5 := hF 0 _ _ rfl rfl
          obtain ⟨a2, c2, e9, h9⟩ := f5
          simp only [e9] at *
          go_simp
          exact hK _ _ (Grow.refl _) ⟨a2, c2, rfl, h9⟩
        refine Plan.rel 8 rfl (Grow.refl) (fun v y => ∃ (b2 : Nat) (a2 : Option Addr) (c2 : Nat), v = .slice (some ⟨b2, 0, none⟩) 1 1 ∧ Row y b2 [.int .i64 u1, .slice a2 u2.length c2] 48 ∧ SpQ y (.slice a2 u2.length c2) u2) (fun v y1 y2 hR ⟨b2, a2, c2, h1, h2, h3⟩ => ⟨b2, a2, c2, h1, h2.below hR h2.lt, h3.below hR⟩) (fun vs x hR hF K hK => ?_) ?_
        · have f6 := hF 0 _ _ rfl rfl
          obtain ⟨a2, c2, e9, h9⟩ := f6
          simp only [e9] at *
          go_simp
          exact hK _ _ (Grow.alloc _ _) ⟨_, a2, c2, rfl, Row.at _ _ _, h9.below (Grow.alloc _ _)⟩
        refine Plan.nil (fun vs x hR hF => ?_)
        have f0 := hF 7 _ _ rfl; have f1 := hF 6 _ _ rfl; have f2 := hF 5 _ _ rfl; have f3 := hF 4 _ _ rfl; have f4 := hF 3 _ _ rfl; have f5 := hF 2 _ _ rfl; have f6 := hF 1 _ _ rfl; have f7 := hF 0 _ _ rfl
        clear hF
        simp only [f0, f1, f2, f3, f4]
        clear f0 f1 f2 f3 f4
        simp only [List.drop_succ_cons, List.drop_zero]
        obtain ⟨b2, a2, c2, e7, h7r, h7s⟩ := f7
        have hxb := HY.out.2.2.trans ((grow_below hR).mono HY.out.2.2.size)
        have HOX := hid (HX.out.2.1.below hxb)
        have HBX := hid (HX.out.2.2.trans (hxb.mono (by have h8 := HX.out.2.2.size; rw [HZS.out]; exact h8)))
        have HPL := hid (PsQ.lit (q := (u1, u2)) h7r h7s)
        have HLL : Hid ((l.take j).length + [((u1, u2) : Parse)].length ≤ 1000000) := by show _ ≤ _; rw [List.length_take]; simp; omega
        have HZX : Hid (ZS ≤ x.heap.size) := by have h8 := HBX.out.size; show _ ≤ _; rw [HZS.out]; exact h8
        simp only [e7]
        clear f5 f6 h7r h7s hxb HC HCL hR
        at_builtin
        refine wpList_append_ps rfl _ _ rfl ZS _ (l.take j) [(u1, u2)] _ _ rfl HOX.out rfl HPL.out HLL.out HZX.out ?_
        intro a' n9 c' w3 hn9 hown hg hnew
        have HN : Hid (n9 = (l.take (j + 1)).length ∧ OwnP w3 ZS (.slice a' n9 c') (l.take (j + 1)) ∧ Below ZS z2 w3) := by
          have e : l.take (j + 1) = l.take j ++ [(u1, u2)] := by rw [List.take_add_one, HQ.out]; rfl
          rw [e]
          exact ⟨hn9, hown, HBX.out.grown hg HZX.out (fun g hg' => (HOX.out.lt g hg').1)⟩
        clear hn9 hown hg hnew
        go_wp2_with fail
        exact ⟨⟨j + 1, a', n9, c', rfl, by rw [Int.natCast_add]; rfl, hlt, HN.out⟩, by simp [intOf]; omega⟩
      · have hje : j = n := by omega
        have hltJ : ¬ (j : Int) < (n : Int) := by omega
        have htk : l.take j = l := List.take_of_length_le (by have := HNN.out; omega)
        have hx := HX.out
        rw [htk] at hx
        have HX2 := hid hx
        clear hx htk hje HX
        go_wp2_with fail
        go_ret2
        rw [HPR.out]
        refine ⟨na, nc, by rw [← HX2.out.1]; rfl, HB2.out.trans (HX2.out.2.2.mono (by rw [HZS.out]; exact HB2.out.size)), ?_⟩
        have h9 := HX2.out.2.1.psq
        rw [HX2.out.1] at h9
        exact h9.mono fun b _ hb => Nat.le_trans HB2.out.size (by rw [← HZS.out]; exact hb.1)
end Go.Proofs.YtkinnfejgpnddaaDoor

/- append of spans to one span just laid. -/
namespace Go.Proofs.YtkinnfejgpnddaaDoor
open Go.RowKit

theorem gives_append_head {o : Oper} {a : Act} {w : World} {K : Value → World → Prop} (s x : Operand)
    (ho : o.op = .call { callee := .builtin .append, args := #[s, x], argTypes := #[39, 39] })
    (b : Nat) (x1 x2 : Int) (sp : Spans) (u : Value) (hs : a.eval s = .slice (some ⟨b, 0, none⟩) 1 1) (hr : Row w b [.int .i64 x1, .int .i64 x2] 46) (hx : a.eval x = u) (hsrc : SpQ w u sp) (hl : sp.length ≤ 100)
    (h : ∀ a' c' w', Below w.heap.size w w' → SpQ w' (.slice a' (sp.length + 1) c') ((x1, x2) :: sp) → K (.slice a' (sp.length + 1) c') w') : gives Tryd.prog o a w K := by
  obtain ⟨i0, hi, hz0, hz1, hz2⟩ := info_parts info_span
  obtain ⟨sa, c, rfl, h1⟩ := hsrc
  rcases h1 with rfl | ⟨b2, more, rfl, hr2⟩
  · have hsr : Src Tryd.prog i0.size 39 (.slice sa 0 c) 0 [] w := by
      cases sa with
      | none => exact Src.ofNil w Tryd.underlying39 c
      | some ad => exact Src.ofSlice w Tryd.underlying39 ad 0 c [] (by simp) (fun j u hj => by simp at hj) (fun u hu => by cases hu)
    have hrun := run_append_nothing (P := Tryd.prog) w 39 39 o.type 46 i0 Tryd.underlying39 hi (some ⟨b, 0, none⟩) 1 1 (Nat.le_refl _) (.slice sa 0 c) hsr
    have hx' : a.eval x = .slice sa 0 c := hx
    unfold gives
    simp [execOp, ho, resolve, invoke, builtin, hs, hx', hrun, Result.andThen, givesUpon]
    exact h _ _ w (Below.refl _ _) ⟨_, _, rfl, .inr ⟨b, [], rfl, by simpa [spc] using hr⟩⟩
  · have hx' : a.eval x = .slice (some ⟨b2, 0, none⟩) sp.length c := hx
    by_cases hsp : sp = []
    · subst hsp
      have hsr : Src Tryd.prog i0.size 39 (.slice (some ⟨b2, 0, none⟩) 0 c) 0 [] w := Src.ofSlice w Tryd.underlying39 _ 0 c [] (by simp) (fun j u hj => by simp at hj) (fun u hu => by cases hu)
      have hrun := run_append_nothing (P := Tryd.prog) w 39 39 o.type 46 i0 Tryd.underlying39 hi (some ⟨b, 0, none⟩) 1 1 (Nat.le_refl _) _ hsr
      have hx2 : a.eval x = .slice (some ⟨b2, 0, none⟩) 0 c := hx
      unfold gives
      simp [execOp, ho, resolve, invoke, builtin, hs, hx2, hrun, Result.andThen, givesUpon]
      exact h _ _ w (Below.refl _ _) ⟨_, _, rfl, .inr ⟨b, [], rfl, by simpa [spc] using hr⟩⟩
    have hpos : 0 < sp.length := List.length_pos_iff.2 hsp
    obtain ⟨v', w', hrun, hown, hg⟩ := run_append_arg_grows (P := Tryd.prog) w 39 o.type 46 i0 (.agg #[.int .i64 0, .int .i64 0]) 2 16 Tryd.underlying39 hi hz0 hz1 hz2 rfl (by decide) ⟨b, 0, none⟩ 1 1 [.int .i64 x1, .int .i64 x2] rfl (fun j u hj => by rw [Addr.add_lit, Nat.zero_add, hr.cell j]; exact hj) ⟨b2, 0, none⟩ sp.length c (spc sp) (spc_length sp) (fun j u hj => by rw [Addr.add_lit, Nat.zero_add, hr2.cell j]; exact List.getElem?_append_left (List.getElem?_eq_some_iff.1 hj).1 ▸ hj) (by omega) (by unfold maxLen; omega) (by omega)
    obtain ⟨a', c', e⟩ := ownsRow_shape hown
    subst e
    have hn : 1 + sp.length = sp.length + 1 := by omega
    rw [hn] at hown hrun
    have hos : OwnSp w' w.heap.size (.slice a' (sp.length + 1) c') ((x1, x2) :: sp) := ⟨(fun e => by cases e), (by simpa [spc] using hown)⟩
    unfold gives
    simp [execOp, ho, resolve, invoke, builtin, hs, hx', hrun, Result.andThen, givesUpon]
    exact h _ _ w' ⟨hg.os, hg.tape, hg.output, hg.size, fun k hk => hg.block k hk (by simp)⟩ hos.spb.q
theorem results_cell_tmp2 {P : Program} {fn : Func} {p t1 t2 : Tmp} {ty : TypeId} (h : fn.results = #[.cell p ty, .tmp t1, .tmp t2]) (tmps : Array Value) (w : World) (g : Nat) (T : TypeId) (cs : Array Value) (fr : Nat × Nat) (d : TypeDesc)
    (hp : tmps.getD p undef = .pointer (some ⟨g, 0, none⟩)) (hg : w.heap[g]? = some (.cells cs T fr))
    (hu : P.underlying ty = some d) (hd : (match d with | .struct _ | .array _ _ => true | _ => false) = true) (hi : (P.info? ty).map (·.size) = some cs.size) :
    (results fn tmps).run P w = .ok (.tuple #[.agg cs, tmps.getD t1 undef, tmps.getD t2 undef]) w := by
  have hp' : tmps[p]?.getD undef = .pointer (some ⟨g, 0, none⟩) := by simpa using hp
  simp [results, h, hp', asAddr, run_loadVar_row w g T ty cs fr d hg hu hd hi]
end Go.Proofs.YtkinnfejgpnddaaDoor

/- The reference of layer 9: At and Leftmost. -/
namespace Go.Proofs.YtkinnfejgpnddaaDoor
open Go.RowKit
attribute [local go_sem] gives givesUpon

set_option maxRecDepth 100000 in
set_option maxHeartbeats 16000000 in
theorem RAt9_any (w : World) (t : Re) (cs : List Value) (s : ByteArray) (at_ : Int) (lines : Bool) (hin : t.In w cs) (hsz : t.size ≤ 20) (hs : s.size ≤ 1000000) :
    Calls Tryd.prog 16 #[.agg cs.toArray, .string s, .int .i64 at_, .bool lines] w (MatchPost w (atR (parsesR t s at_ lines) at_)) := by
  cases t with
  | mk p xs =>
  have hin2 := hin
  rw [Re.In] at hin2
  obtain ⟨ad, cap, rfl, -⟩ := hin2
  simp only [Pay.cells] at hin ⊢
  have hb2 : Below w.heap.size w ((w.alloc (.cells #[.int .i64 p.op, .int .u64 p.set.a, .int .u64 p.set.b, .int .u64 p.set.c, .int .u64 p.set.d, .int .i64 p.lo, .int .i64 p.hi, .int .i64 p.gr, .slice ad xs.length cap] 28)).alloc (.cells #[.slice none 0 0] 41)) := ((Below.refl _ _).alloc (Nat.le_refl _) _).alloc (by simp) _
  have R0 : Row ((w.alloc (.cells #[.int .i64 p.op, .int .u64 p.set.a, .int .u64 p.set.b, .int .u64 p.set.c, .int .u64 p.set.d, .int .i64 p.lo, .int .i64 p.hi, .int .i64 p.gr, .slice ad xs.length cap] 28)).alloc (.cells #[.slice none 0 0] 41)) w.heap.size [.int .i64 p.op, .int .u64 p.set.a, .int .u64 p.set.b, .int .u64 p.set.c, .int .u64 p.set.d, .int .i64 p.lo, .int .i64 p.hi, .int .i64 p.gr, .slice ad xs.length cap] 28 := (Row.new rfl).alloc _
  have R1 : Row ((w.alloc (.cells #[.int .i64 p.op, .int .u64 p.set.a, .int .u64 p.set.b, .int .u64 p.set.c, .int .u64 p.set.d, .int .i64 p.lo, .int .i64 p.hi, .int .i64 p.gr, .slice ad xs.length cap] 28)).alloc (.cells #[.slice none 0 0] 41)) (w.heap.size + 1) [.slice none 0 0] 41 := Row.new (by simp)
  have HR := hid (⟨R0, R1⟩ : _ ∧ _)
  have HB2 := hid hb2
  have q0 := R0.c9
  have hok := (parsesR_ok (t := .mk p xs) (s := s) (at_ := at_) (lines := lines))
  have hp := RParses_any ((w.alloc (.cells #[.int .i64 p.op, .int .u64 p.set.a, .int .u64 p.set.b, .int .u64 p.set.c, .int .u64 p.set.d, .int .i64 p.lo, .int .i64 p.hi, .int .i64 p.gr, .slice ad xs.length cap] 28)).alloc (.cells #[.slice none 0 0] 41)) (.mk p xs) [.int .i64 p.op, .int .u64 p.set.a, .int .u64 p.set.b, .int .u64 p.set.c, .int .u64 p.set.d, .int .i64 p.lo, .int .i64 p.hi, .int .i64 p.gr, .slice ad xs.length cap] s at_ lines (hin.below hb2) hsz hs
  obtain ⟨⟨l, x⟩, hr⟩ : ∃ r, r = parsesR (.mk p xs) s at_ lines := ⟨_, rfl⟩
  rw [← hr] at hp hok ⊢
  have HP := hid hp
  have HOK := hid hok
  clear hin hb2 R0 R1 hp hok hr
  go_enter Tryd.func16, Tryd.ntmps16
  go_wp2_with fail
  refine HP.out.mono ?_
  rintro e z ⟨a, c, rfl, hb, hps⟩
  have HZ := hid (⟨⟨HR.out.1.below hb HR.out.1.lt, HR.out.2.below hb HR.out.2.lt⟩, HB2.out.trans (hb.mono HB2.out.size), hps⟩ : (Row z _ _ _ ∧ Row z _ _ _) ∧ Below w.heap.size w z ∧ PsQ _ z _ _)
  clear hb hps q0 HP HB2 HR
  have q1 := HZ.out.1.2.cell 0
  have q2 := HZ.out.1.2.free 0
  dsimp only
  cases l with
  | nil =>
    have HA : Hid (MatchPost w (atR (([] : List Parse), x) at_) (.returned (.tuple #[.agg #[.slice none 0 0], .bool false, .int .i64 x])) (z.setCell ⟨w.heap.size + 1, 0, none⟩ (.slice none 0 0))) :=
      ⟨none, 0, rfl, HZ.out.2.1.setCell (by simp) _, ⟨none, 0, rfl, .inl rfl⟩⟩
    by_cases hx : x = 0
    · subst hx
      go_wp2_with fail
      refine bodyPost_ret (results_cell_tmp2 rfl _ _ (w.heap.size + 1) _ _ _ _ rfl (show _ = some (Obj.cells (List.toArray _) _) from HZ.out.1.2.set 0 (.slice none 0 0)) Tryd.underlying41 rfl (by kernel_rfl)) rfl ?_
      exact HA.out
    · go_wp2_with fail
      refine bodyPost_ret (results_cell_tmp2 rfl _ _ (w.heap.size + 1) _ _ _ _ rfl (show _ = some (Obj.cells (List.toArray _) _) from HZ.out.1.2.set 0 (.slice none 0 0)) Tryd.underlying41 rfl (by kernel_rfl)) rfl ?_
      exact HA.out
  | cons q l =>
    have hx := (HOK.out.2 (by simp)).2
    subst hx
    obtain ⟨b, c', q1', q2', sa, sc, hq, ev, hbz, hpb, -, p0, p1, hsq⟩ := HZ.out.2.2.get (k := 0) (by simp)
    have hq' := Option.some.inj hq
    subst hq'
    injection ev with e1 e2 e3
    subst e1; subst e3
    clear e2 hq
    obtain ⟨n, hn⟩ : ∃ n, n = ((q1', q2') :: l).length := ⟨_, rfl⟩
    have hpos : 0 < n := by rw [hn]; simp
    have hposI : (0 : Int) < (n : Int) := by omega
    have hnz : ((n : Int) == 0) = false := by simp; omega
    have hb4 : Below z.heap.size z ((z.alloc (.cells #[.int .i64 at_, .int .i64 q1'] 46)).alloc (.cells #[.slice (some ⟨z.heap.size, 0, none⟩) 1 1] 41)) := ((Below.refl _ _).alloc (Nat.le_refl _) _).alloc (by simp) _
    have S0 : Row ((z.alloc (.cells #[.int .i64 at_, .int .i64 q1'] 46)).alloc (.cells #[.slice (some ⟨z.heap.size, 0, none⟩) 1 1] 41)) z.heap.size [.int .i64 at_, .int .i64 q1'] 46 := (Row.new rfl).alloc _
    have S1 : Row ((z.alloc (.cells #[.int .i64 at_, .int .i64 q1'] 46)).alloc (.cells #[.slice (some ⟨z.heap.size, 0, none⟩) 1 1] 41)) (z.heap.size + 1) [.slice (some ⟨z.heap.size, 0, none⟩) 1 1] 41 := Row.new (by simp)
    have HS := hid (⟨S0, S1⟩ : _ ∧ _)
    have HB4 := hid hb4
    have HSQ := hid hsq
    have HC0 := hid (⟨p0, p1, hbz⟩ : _ ∧ _ ∧ _)
    have hl9 : q2'.length ≤ 100 := by
      have h1 := (HOK.out.1 (q1', q2') (by simp)).2.2.1
      have h2 := (Re.ok_err (chk_zero (HOK.out.2 (by simp)).1).1).2.1
      dsimp only at h1
      omega
    have HC := hid (fun (y : World) (hy : Grow (((z.alloc (.cells #[.int .i64 at_, .int .i64 q1'] 46)).alloc (.cells #[.slice (some ⟨z.heap.size, 0, none⟩) 1 1] 41))).drew y) => (⟨(HS.out.2.grow hy).cell 0, ((grow_below hy).cell (p := ⟨b, 0 * 2, none⟩) (Nat.lt_of_lt_of_le HC0.out.2.2 HB4.out.size)).trans (((HB4.out.cell (p := ⟨b, 0 * 2, none⟩) HC0.out.2.2)).trans HC0.out.1), ((grow_below hy).cell (p := ⟨b, 0 * 2 + 1, none⟩) (Nat.lt_of_lt_of_le HC0.out.2.2 HB4.out.size)).trans ((HB4.out.cell (p := ⟨b, 0 * 2 + 1, none⟩) HC0.out.2.2).trans HC0.out.2.1)⟩ : _ ∧ _ ∧ _))
    have HSP := hid (fun (y : World) (hy : Grow (((z.alloc (.cells #[.int .i64 at_, .int .i64 q1'] 46)).alloc (.cells #[.slice (some ⟨z.heap.size, 0, none⟩) 1 1] 41))).drew y) => (⟨HS.out.1.grow hy, (HSQ.out.below HB4.out).below (grow_below hy)⟩ : _ ∧ _))
    have HR2 := hid (fun (y : World) (hy : Grow (((z.alloc (.cells #[.int .i64 at_, .int .i64 q1'] 46)).alloc (.cells #[.slice (some ⟨z.heap.size, 0, none⟩) 1 1] 41))).drew y) => (⟨HZ.out.1.2.below (HB4.out.trans ((grow_below hy).mono HB4.out.size)) HZ.out.1.2.lt, HS.out.2.grow hy, HZ.out.2.1.trans ((HB4.out.trans ((grow_below hy).mono HB4.out.size)).mono HZ.out.2.1.size)⟩ : Row y (w.heap.size + 1) _ _ ∧ Row y (z.heap.size + 1) _ _ ∧ Below w.heap.size w y))
    have hwz := HZ.out.1.2.lt
    have hlw : w.heap.size + 1 < z.heap.size := hwz
    rw [← hn]
    simp only [Nat.zero_mul, Nat.zero_add] at p0 p1 HC
    clear hb4 S0 S1 hsq hbz hn hwz hpb
    go_upto_region 5 with fail
    refine wp_region_inv 8 (Grow) (by kernel_rfl) (by kernel_rfl) (Grow.refl) (fun _ _ _ => Grow.trans) ?_
    simp only [fill, dstOf, Act.put, List.take_succ_cons, List.take_zero, List.getElem?_toArray, List.getElem?_cons_zero, List.getElem?_cons_succ, Option.bind_some, List.setIfInBounds_toArray, List.set_cons_zero, List.set_cons_succ]
    refine Plan.det 1 rfl (Grow.refl) ?_
    apply Exists.intro
    refine ⟨fun vs x hR hF K hK => ?_, ?_⟩
    · clear hF
      go_simp
      exact hK _ _ (Grow.refl _) rfl
    refine Plan.det 2 rfl (Grow.refl) ?_
    apply Exists.intro
    refine ⟨fun vs x hR hF K hK => ?_, ?_⟩
    · have f0 := hF 0 _ _ rfl rfl; have hc := HC.out x hR; clear hF
      go_simp
      exact hK _ _ (Grow.refl _) rfl
    refine Plan.det 3 rfl (Grow.refl) ?_
    apply Exists.intro
    refine ⟨fun vs x hR hF K hK => ?_, ?_⟩
    · clear hF
      go_simp
      exact hK _ _ (Grow.refl _) rfl
    refine Plan.det 4 rfl (Grow.refl) ?_
    apply Exists.intro
    refine ⟨fun vs x hR hF K hK => ?_, ?_⟩
    · have f2 := hF 0 _ _ rfl rfl; clear hF
      go_simp
      exact hK _ _ (Grow.refl _) rfl
    refine Plan.det 5 rfl (Grow.refl) ?_
    apply Exists.intro
    refine ⟨fun vs x hR hF K hK => ?_, ?_⟩
    · have f3 := hF 0 _ _ rfl rfl; clear hF
      go_simp
      exact hK _ _ (Grow.refl _) rfl
    refine Plan.det 6 rfl (Grow.refl) ?_
    apply Exists.intro
    refine ⟨fun vs x hR hF K hK => ?_, ?_⟩
    · have f4 := hF 0 _ _ rfl rfl; have hc := HC.out x hR; clear hF
      go_simp
      exact hK _ _ (Grow.refl _) rfl
    refine Plan.rel 7 rfl (Grow.refl) (fun v y => ∃ (a2 : Option Addr) (c2 : Nat), v = .slice a2 (q2'.length + 1) c2 ∧ SpQ y (.slice a2 (q2'.length + 1) c2) ((at_, (q1' : Int)) :: q2')) (fun v y z hR ⟨a1, c1, h1, h2⟩ => ⟨a1, c1, h1, h2.below hR⟩) (fun vs x hR hF K hK => ?_) ?_
    · have f1 := hF 4 _ _ rfl rfl; have f5 := hF 0 _ _ rfl rfl
      refine gives_append_head _ _ rfl _ at_ q1' q2' _ f1 (HSP.out x hR).1 f5 (HSP.out x hR).2 hl9 ?_
      intro a2 c2 w9 hb9 hs9
      exact hK _ _ hb9 ⟨a2, c2, rfl, hs9⟩
    refine Plan.det 8 rfl (Grow.refl) ?_
    apply Exists.intro
    refine ⟨fun vs x hR hF K hK => ?_, ?_⟩
    · have f0 := hF 6 _ _ rfl rfl; have f1 := hF 5 _ _ rfl rfl; have f2 := hF 4 _ _ rfl rfl; have f3 := hF 3 _ _ rfl rfl; have f4 := hF 2 _ _ rfl rfl; have f5 := hF 1 _ _ rfl rfl; have f6 := hF 0 _ _ rfl rfl; clear hF
      go_simp
      exact hK _ _ (Grow.refl _) rfl
    refine Plan.nil (fun vs x hR hF => ?_)
    have f0 := hF 7 _ _ rfl; have f1 := hF 6 _ _ rfl; have f2 := hF 5 _ _ rfl; have f3 := hF 4 _ _ rfl; have f4 := hF 3 _ _ rfl; have f5 := hF 2 _ _ rfl; have f6 := hF 1 _ _ rfl; have f7 := hF 0 _ _ rfl
    clear hF
    simp only [f0, f1, f2, f3, f4, f5, f7]
    clear f0 f1 f2 f3 f4 f5 f7
    simp only [List.drop_succ_cons, List.drop_zero]
    obtain ⟨a2, c2, ev6, hs6⟩ := f6
    simp only [ev6]
    clear ev6
    obtain ⟨T0, T1, hb9⟩ := HR2.out x hR
    have hlx : w.heap.size + 1 < x.heap.size := T0.lt
    have hne : w.heap.size + 1 ≠ z.heap.size + 1 := by omega
    have T2 : Row (x.setCell ⟨z.heap.size + 1, 0, none⟩ (.slice a2 (q2'.length + 1) c2)) (w.heap.size + 1) [.slice none 0 0] 41 := T0.other hne _ _
    have T3 : Row (x.setCell ⟨z.heap.size + 1, 0, none⟩ (.slice a2 (q2'.length + 1) c2)) (z.heap.size + 1) [.slice a2 (q2'.length + 1) c2] 41 := T1.set 0 _
    have HT := hid (⟨T2, T3⟩ : _ ∧ _)
    have HFIN : Hid (MatchPost w (atR ((q1', q2') :: l, (0 : Int)) at_) (.returned (.tuple #[.agg #[.slice a2 (q2'.length + 1) c2], .bool true, .int .i64 0])) ((x.setCell ⟨z.heap.size + 1, 0, none⟩ (.slice a2 (q2'.length + 1) c2)).setCell ⟨w.heap.size + 1, 0, none⟩ (.slice a2 (q2'.length + 1) c2))) := by
      refine ⟨a2, c2, rfl, ((hb9.setCell (by simp; omega) _).setCell (by simp) _), ?_⟩
      have h8 : SpQ (x.setCell ⟨z.heap.size + 1, 0, none⟩ (.slice a2 (q2'.length + 1) c2)) (.slice a2 (q2'.length + 1) c2) ((at_, (q1' : Int)) :: q2') := hs6.of fun b8 cs8 hr8 => hr8.other (fun e => by subst e; exact absurd (hr8.typed T1) (by decide)) _ _
      exact h8.of fun b8 cs8 hr8 => hr8.other (fun e => by subst e; exact absurd (hr8.typed T2) (by decide)) _ _
    have p2 := T1.cell 0
    have p3 := T1.free 0
    have p4 := T0.free 0
    clear T0 T1 T2 T3 hs6 hb9 HC HSP HR2 HS HC0 hR p0 p1 q1 q2 hne
    go_upto_region 6 with fail
    clear p2 p3 p4
    generalize x.setCell ⟨z.heap.size + 1, 0, none⟩ (.slice a2 (q2'.length + 1) c2) = y at HT HFIN ⊢
    have p2 := HT.out.2.cell 0
    have p4 := HT.out.1.free 0
    have p5 := HT.out.1.cell 0
    go_wp2_with fail
    refine bodyPost_ret (results_cell_tmp2 rfl _ _ (w.heap.size + 1) _ _ _ _ rfl (show _ = some (Obj.cells (List.toArray _) _) from HT.out.1.set 0 (.slice a2 (q2'.length + 1) c2)) Tryd.underlying41 rfl (by kernel_rfl)) rfl ?_
    exact HFIN.out
theorem leftR_hit {t : Re} {s : ByteArray} {lines : Bool} {i : Nat} {r : Spans × Bool × Int} (hi : i ≤ s.size) (hr : r = atR (parsesR t s i lines) i) (h : r.2.1 = true ∨ r.2.2 ≠ 0) : leftR t s lines (s.size + 1 - i) i = r := by
  obtain ⟨d, hd⟩ : ∃ d, s.size + 1 - i = d + 1 := ⟨s.size - i, by omega⟩
  rw [hd, leftR, ← hr, if_pos h]
theorem leftR_miss {t : Re} {s : ByteArray} {lines : Bool} {i : Nat} {r : Spans × Bool × Int} (hi : i ≤ s.size) (hr : r = atR (parsesR t s i lines) i) (h : r.2.1 = false ∧ r.2.2 = 0) : leftR t s lines (s.size + 1 - i) i = leftR t s lines (s.size + 1 - (i + 1)) (i + 1) := by
  obtain ⟨d, hd⟩ : ∃ d, s.size + 1 - i = d + 1 := ⟨s.size - i, by omega⟩
  rw [hd, leftR, ← hr, if_neg (by rw [h.1, h.2]; simp), show s.size + 1 - (i + 1) = d by omega]
/-- What the loop over offsets keeps. -/
def LefL (t : Re) (s : ByteArray) (lines : Bool) (w : World) (BXL : List Value) (f i : Nat) (wr : World) : Prop :=
  (Row wr w.heap.size BXL 28 ∧ Row wr (w.heap.size + 1) [.slice none 0 0] 41) ∧ Below w.heap.size w wr ∧ leftR t s lines (s.size + 1 - f) f = leftR t s lines (s.size + 1 - i) i
set_option maxRecDepth 100000 in
set_option maxHeartbeats 16000000 in
theorem RLeft_any (w : World) (t : Re) (cs : List Value) (s : ByteArray) (at_ : Int) (lines : Bool) (hin : t.In w cs) (hsz : t.size ≤ 20) (hs : s.size ≤ 1000000) :
    Calls Tryd.prog 18 #[.agg cs.toArray, .string s, .int .i64 at_, .bool lines] w (MatchPost w (leftmostR t s at_ lines)) := by
  cases t with
  | mk p xs =>
  have hin2 := hin
  rw [Re.In] at hin2
  obtain ⟨ad, cap, rfl, -⟩ := hin2
  simp only [Pay.cells] at hin ⊢
  have hb2 : Below w.heap.size w ((w.alloc (.cells #[.int .i64 p.op, .int .u64 p.set.a, .int .u64 p.set.b, .int .u64 p.set.c, .int .u64 p.set.d, .int .i64 p.lo, .int .i64 p.hi, .int .i64 p.gr, .slice ad xs.length cap] 28)).alloc (.cells #[.slice none 0 0] 41)) := ((Below.refl _ _).alloc (Nat.le_refl _) _).alloc (by simp) _
  have R0 : Row ((w.alloc (.cells #[.int .i64 p.op, .int .u64 p.set.a, .int .u64 p.set.b, .int .u64 p.set.c, .int .u64 p.set.d, .int .i64 p.lo, .int .i64 p.hi, .int .i64 p.gr, .slice ad xs.length cap] 28)).alloc (.cells #[.slice none 0 0] 41)) w.heap.size [.int .i64 p.op, .int .u64 p.set.a, .int .u64 p.set.b, .int .u64 p.set.c, .int .u64 p.set.d, .int .i64 p.lo, .int .i64 p.hi, .int .i64 p.gr, .slice ad xs.length cap] 28 := (Row.new rfl).alloc _
  have R1 : Row ((w.alloc (.cells #[.int .i64 p.op, .int .u64 p.set.a, .int .u64 p.set.b, .int .u64 p.set.c, .int .u64 p.set.d, .int .i64 p.lo, .int .i64 p.hi, .int .i64 p.gr, .slice ad xs.length cap] 28)).alloc (.cells #[.slice none 0 0] 41)) (w.heap.size + 1) [.slice none 0 0] 41 := Row.new (by simp)
  have HR := hid (⟨R0, R1⟩ : _ ∧ _)
  have HB2 := hid hb2
  have q0 := R0.c9
  have HCK := hid (CheckRef_any (.mk p xs) ((w.alloc (.cells #[.int .i64 p.op, .int .u64 p.set.a, .int .u64 p.set.b, .int .u64 p.set.c, .int .u64 p.set.d, .int .i64 p.lo, .int .i64 p.hi, .int .i64 p.gr, .slice ad xs.length cap] 28)).alloc (.cells #[.slice none 0 0] 41)) [.int .i64 p.op, .int .u64 p.set.a, .int .u64 p.set.b, .int .u64 p.set.c, .int .u64 p.set.d, .int .i64 p.lo, .int .i64 p.hi, .int .i64 p.gr, .slice ad xs.length cap] (hin.below hb2) (by omega))
  have HIN := hid hin
  clear hin hb2 R0 R1
  go_enter Tryd.func18, Tryd.ntmps18
  go_wp2_with fail
  refine HCK.out.mono ?_
  rintro e z ⟨rfl, hb⟩
  have HZ := hid (⟨⟨HR.out.1.below hb HR.out.1.lt, HR.out.2.below hb HR.out.2.lt⟩, HB2.out.trans (hb.mono HB2.out.size)⟩ : (Row z _ _ _ ∧ Row z _ _ _) ∧ Below w.heap.size w z)
  clear hb q0 HCK HB2 HR
  have q0 := HZ.out.1.1.c9
  have q1 := HZ.out.1.2.cell 0
  have q2 := HZ.out.1.2.free 0
  obtain ⟨er, her⟩ : ∃ er, er = (Re.mk p xs).err := ⟨_, rfl⟩
  have HER := hid her
  rw [← her]
  clear her
  by_cases he : er = 0
  · subst he
    by_cases hr : at_ < 0 ∨ (s.size : Int) < at_
    · have hc : chk (.mk p xs) s at_ = 2 := by unfold chk; rw [if_neg (by rw [← HER.out]; simp), if_pos hr]
      have HA : Hid (MatchPost w (leftmostR (.mk p xs) s at_ lines) (.returned (.tuple #[.agg #[.slice none 0 0], .bool false, .int .i64 2])) (z.setCell ⟨w.heap.size + 1, 0, none⟩ (.slice none 0 0))) := by
        have : leftmostR (.mk p xs) s at_ lines = ([], false, 2) := by unfold leftmostR; rw [hc]; rfl
        rw [this]
        exact ⟨none, 0, rfl, HZ.out.2.setCell (by simp) _, ⟨none, 0, rfl, .inl rfl⟩⟩
      clear hc HER
      have hr2 : at_ < 0 ∨ (¬ at_ < 0 ∧ (s.size : Int) < at_) := by omega
      clear hr
      rcases hr2 with hr | ⟨hr1, hr⟩
      all_goals
        go_wp2_with fail
        refine bodyPost_ret (results_cell_tmp2 rfl _ _ (w.heap.size + 1) _ _ _ _ rfl (show _ = some (Obj.cells (List.toArray _) _) from HZ.out.1.2.set 0 (.slice none 0 0)) Tryd.underlying41 rfl (by kernel_rfl)) rfl ?_
        exact HA.out
    · have hc : chk (.mk p xs) s at_ = 0 := by unfold chk; rw [if_neg (by rw [← HER.out]; simp), if_neg hr]
      obtain ⟨f, rfl⟩ : ∃ f : Nat, at_ = f := ⟨at_.toNat, by omega⟩
      have hf : f ≤ s.size := by omega
      have hfs : ¬ (s.size : Int) < (f : Int) := by omega
      have hf0 : ¬ (f : Int) < 0 := by omega
      have HLM : Hid (leftmostR (.mk p xs) s f lines = leftR (.mk p xs) s lines (s.size + 1 - f) f) := by show _ = _; unfold leftmostR; rw [if_neg (by simp [hc])]; rfl
      have HST : Hid (LefL (.mk p xs) s lines w [.int .i64 p.op, .int .u64 p.set.a, .int .u64 p.set.b, .int .u64 p.set.c, .int .u64 p.set.d, .int .i64 p.lo, .int .i64 p.hi, .int .i64 p.gr, .slice ad xs.length cap] f f z) := ⟨HZ.out.1, HZ.out.2, rfl⟩
      have hzlt := HZ.out.1.2.lt
      clear hc hr HER HZ q0 q1 q2
      go_wp2_with fail
      go_loopw [12] (fun v wr => ∃ i : Nat, v = .int .i64 i ∧ f ≤ i ∧ i ≤ s.size + 1 ∧ Hid (LefL (.mk p xs) s lines w [.int .i64 p.op, .int .u64 p.set.a, .int .u64 p.set.b, .int .u64 p.set.c, .int .u64 p.set.d, .int .i64 p.lo, .int .i64 p.hi, .int .i64 p.gr, .slice ad xs.length cap] f i wr)) (fun v _ => s.size + 1 - (intOf v).toNat)
      case atStart => exact ⟨f, rfl, Nat.le_refl _, by omega, HST.out⟩
      case round =>
        obtain ⟨i, rfl, hfi, his, HX⟩ := hrel
        have q0 := HX.out.1.1.c9
        have q1 := HX.out.1.2.cell 0
        have q2 := HX.out.1.2.free 0
        by_cases hle : i ≤ s.size
        · have hleI : (i : Int) ≤ (s.size : Int) := by omega
          have hwi : IntKind.i64.wrap ((i : Int) + 1) = (i : Int) + 1 := by rw [IntKind.wrap_i64]; omega
          have ha := RAt9_any wr (.mk p xs) [.int .i64 p.op, .int .u64 p.set.a, .int .u64 p.set.b, .int .u64 p.set.c, .int .u64 p.set.d, .int .i64 p.lo, .int .i64 p.hi, .int .i64 p.gr, .slice ad xs.length cap] s i lines (HIN.out.below HX.out.2.1) hsz hs
          obtain ⟨⟨spr, okr, xr⟩, hr⟩ : ∃ r, r = atR (parsesR (.mk p xs) s i lines) i := ⟨_, rfl⟩
          rw [← hr] at ha
          have HA := hid ha
          have HRR := hid hr
          clear ha hr
          go_wp2_with fail
          refine HA.out.mono ?_
          rintro e z2 ⟨a, c, rfl, hb, hsq⟩
          have HZ2 := hid (⟨⟨HX.out.1.1.below hb HX.out.1.1.lt, HX.out.1.2.below hb HX.out.1.2.lt⟩, HX.out.2.1.trans (hb.mono HX.out.2.1.size), hsq⟩ : (Row z2 _ _ _ ∧ Row z2 _ _ _) ∧ Below w.heap.size w z2 ∧ SpQ z2 _ _)
          clear hb hsq q0 q1 q2
          dsimp only at HZ2 ⊢
          go_upto_region 10 with fail
          have hal : Below z2.heap.size z2 (z2.alloc (.cells #[.slice a spr.length c] 41)) := (Below.refl _ _).alloc (Nat.le_refl _) _
          have HZ3 := hid (⟨⟨HZ2.out.1.1.alloc (.cells #[.slice a spr.length c] 41), HZ2.out.1.2.alloc (.cells #[.slice a spr.length c] 41)⟩, HZ2.out.2.1.trans (hal.mono HZ2.out.2.1.size), HZ2.out.2.2.below hal, Row.new (w := z2) (cs := [.slice a spr.length c]) (T := 41) rfl⟩ : (Row _ _ _ _ ∧ Row _ _ _ _) ∧ Below w.heap.size w _ ∧ SpQ _ _ _ ∧ Row (z2.alloc (.cells #[.slice a spr.length c] 41)) z2.heap.size _ _)
          clear hal
          generalize (z2.alloc (.cells #[.slice a spr.length c] 41)) = z3 at HZ3 ⊢
          have q1 := HZ3.out.1.2.cell 0
          have q2 := HZ3.out.1.2.free 0
          have q3 := HZ3.out.2.2.2.cell 0
          have hcase : (xr = 0 ∧ okr = false) ∨ ((¬ xr = 0 ∨ (xr = 0 ∧ okr = true)) ∧ Hid (okr = true ∨ xr ≠ 0)) := by
            unfold Hid
            by_cases h1 : xr = 0 <;> cases okr <;> simp [h1]
          rcases hcase with ⟨h1, h2⟩ | ⟨h1 | ⟨h1, h2⟩, HH⟩
          · subst h1; subst h2
            have HN : Hid (LefL (.mk p xs) s lines w [.int .i64 p.op, .int .u64 p.set.a, .int .u64 p.set.b, .int .u64 p.set.c, .int .u64 p.set.d, .int .i64 p.lo, .int .i64 p.hi, .int .i64 p.gr, .slice ad xs.length cap] f (i + 1) z3) := ⟨HZ3.out.1, HZ3.out.2.1, by rw [HX.out.2.2]; exact leftR_miss hle HRR.out ⟨rfl, rfl⟩⟩
            clear HZ2 HZ3 q1 q2 q3 HX HST
            go_wp2_with fail
            refine ⟨⟨i + 1, by go_num, by omega, by omega, HN.out⟩, ?_⟩
            simp [intOf] <;> omega
          all_goals
            have hres : leftmostR (.mk p xs) s f lines = _ := HLM.out.trans (HX.out.2.2.trans (leftR_hit hle HRR.out HH.out))
            have HF : Hid (MatchPost w (leftmostR (.mk p xs) s f lines) (.returned (.tuple #[.agg #[.slice a spr.length c], .bool okr, .int .i64 xr])) (z3.setCell ⟨w.heap.size + 1, 0, none⟩ (.slice a spr.length c))) := by
              rw [hres]
              refine ⟨a, c, rfl, HZ3.out.2.1.setCell (by simp) _, HZ3.out.2.2.1.of fun b8 cs8 hr8 => hr8.other (fun e => by subst e; exact absurd (hr8.typed HZ3.out.1.2) (by decide)) _ _⟩
            clear hres
            try subst h1
            try subst h2
            go_wp2_with fail
            refine bodyPost_ret (results_cell_tmp2 rfl _ _ (w.heap.size + 1) _ _ _ _ rfl (show _ = some (Obj.cells (List.toArray _) _) from HZ3.out.1.2.set 0 (.slice a spr.length c)) Tryd.underlying41 rfl (by kernel_rfl)) rfl ?_
            exact HF.out
        · obtain rfl : i = s.size + 1 := by omega
          have hleI : ¬ ((s.size + 1 : Nat) : Int) ≤ (s.size : Int) := by omega
          have HF : Hid (MatchPost w (leftmostR (.mk p xs) s f lines) (.returned (.tuple #[.agg #[.slice none 0 0], .bool false, .int .i64 0])) (wr.setCell ⟨w.heap.size + 1, 0, none⟩ (.slice none 0 0))) := by
            have : leftmostR (.mk p xs) s f lines = ([], false, 0) := by rw [HLM.out, HX.out.2.2, Nat.sub_self]; rfl
            rw [this]
            exact ⟨none, 0, rfl, HX.out.2.1.setCell (by simp) _, ⟨none, 0, rfl, .inl rfl⟩⟩
          have HX2 := hid HX.out.1.2
          clear HX HST HLM
          go_wp2_with fail
          refine bodyPost_ret (results_cell_tmp2 rfl _ _ (w.heap.size + 1) _ _ _ _ rfl (show _ = some (Obj.cells (List.toArray _) _) from HX2.out.set 0 (.slice none 0 0)) Tryd.underlying41 rfl (by kernel_rfl)) rfl ?_
          exact HF.out
  · have hc : chk (.mk p xs) s at_ = er := by unfold chk; rw [if_pos (by rw [← HER.out]; exact he), HER.out]
    have HA : Hid (MatchPost w (leftmostR (.mk p xs) s at_ lines) (.returned (.tuple #[.agg #[.slice none 0 0], .bool false, .int .i64 er])) (z.setCell ⟨w.heap.size + 1, 0, none⟩ (.slice none 0 0))) := by
      have : leftmostR (.mk p xs) s at_ lines = ([], false, er) := by unfold leftmostR; rw [hc, if_pos he]
      rw [this]
      exact ⟨none, 0, rfl, HZ.out.2.setCell (by simp) _, ⟨none, 0, rfl, .inl rfl⟩⟩
    clear hc HER
    go_wp2_with fail
    refine bodyPost_ret (results_cell_tmp2 rfl _ _ (w.heap.size + 1) _ _ _ _ rfl (show _ = some (Obj.cells (List.toArray _) _) from HZ.out.1.2.set 0 (.slice none 0 0)) Tryd.underlying41 rfl (by kernel_rfl)) rfl ?_
    exact HA.out
end Go.Proofs.YtkinnfejgpnddaaDoor

/- The program of layer 9: At. -/
namespace Go.Proofs.YtkinnfejgpnddaaDoor
open Go.RowKit
attribute [local go_sem] gives givesUpon

set_option maxRecDepth 100000 in
set_option maxHeartbeats 16000000 in
theorem PAt9_any (w : World) (t : Re) (cs : List Value) (s : ByteArray) (at_ : Int) (lines : Bool) (hin : t.In w cs) (hsz : t.size ≤ 20) (hs : s.size ≤ 1000000) (ht : Tabs9 w) :
    Calls Tryd.prog 15 #[.agg cs.toArray, .string s, .int .i64 at_, .bool lines] w (MatchPost w (atR (parsesR t s at_ lines) at_)) := by
  cases t with
  | mk p xs =>
  have hin2 := hin
  rw [Re.In] at hin2
  obtain ⟨ad, cap, rfl, -⟩ := hin2
  simp only [Pay.cells] at hin ⊢
  have hb2 : Below w.heap.size w ((w.alloc (.cells #[.int .i64 p.op, .int .u64 p.set.a, .int .u64 p.set.b, .int .u64 p.set.c, .int .u64 p.set.d, .int .i64 p.lo, .int .i64 p.hi, .int .i64 p.gr, .slice ad xs.length cap] 28)).alloc (.cells #[.slice none 0 0] 41)) := ((Below.refl _ _).alloc (Nat.le_refl _) _).alloc (by simp) _
  have R0 : Row ((w.alloc (.cells #[.int .i64 p.op, .int .u64 p.set.a, .int .u64 p.set.b, .int .u64 p.set.c, .int .u64 p.set.d, .int .i64 p.lo, .int .i64 p.hi, .int .i64 p.gr, .slice ad xs.length cap] 28)).alloc (.cells #[.slice none 0 0] 41)) w.heap.size [.int .i64 p.op, .int .u64 p.set.a, .int .u64 p.set.b, .int .u64 p.set.c, .int .u64 p.set.d, .int .i64 p.lo, .int .i64 p.hi, .int .i64 p.gr, .slice ad xs.length cap] 28 := (Row.new rfl).alloc _
  have R1 : Row ((w.alloc (.cells #[.int .i64 p.op, .int .u64 p.set.a, .int .u64 p.set.b, .int .u64 p.set.c, .int .u64 p.set.d, .int .i64 p.lo, .int .i64 p.hi, .int .i64 p.gr, .slice ad xs.length cap] 28)).alloc (.cells #[.slice none 0 0] 41)) (w.heap.size + 1) [.slice none 0 0] 41 := Row.new (by simp)
  have HR := hid (⟨R0, R1⟩ : _ ∧ _)
  have HB2 := hid hb2
  have q0 := R0.c9
  have hok := (parsesR_ok (t := .mk p xs) (s := s) (at_ := at_) (lines := lines))
  have hp := PParses_any ((w.alloc (.cells #[.int .i64 p.op, .int .u64 p.set.a, .int .u64 p.set.b, .int .u64 p.set.c, .int .u64 p.set.d, .int .i64 p.lo, .int .i64 p.hi, .int .i64 p.gr, .slice ad xs.length cap] 28)).alloc (.cells #[.slice none 0 0] 41)) (.mk p xs) [.int .i64 p.op, .int .u64 p.set.a, .int .u64 p.set.b, .int .u64 p.set.c, .int .u64 p.set.d, .int .i64 p.lo, .int .i64 p.hi, .int .i64 p.gr, .slice ad xs.length cap] s at_ lines (hin.below hb2) hsz hs (ht.on hb2)
  obtain ⟨⟨l, x⟩, hr⟩ : ∃ r, r = parsesR (.mk p xs) s at_ lines := ⟨_, rfl⟩
  rw [← hr] at hp hok ⊢
  have HP := hid hp
  have HOK := hid hok
  clear hin hb2 ht R0 R1 hp hok hr
  go_enter Tryd.func15, Tryd.ntmps15
  go_wp2_with fail
  refine HP.out.mono ?_
  rintro e z ⟨a, c, rfl, hb, hps⟩
  have HZ := hid (⟨⟨HR.out.1.below hb HR.out.1.lt, HR.out.2.below hb HR.out.2.lt⟩, HB2.out.trans (hb.mono HB2.out.size), hps⟩ : (Row z _ _ _ ∧ Row z _ _ _) ∧ Below w.heap.size w z ∧ PsQ _ z _ _)
  clear hb hps q0 HP HB2 HR
  have q1 := HZ.out.1.2.cell 0
  have q2 := HZ.out.1.2.free 0
  dsimp only
  cases l with
  | nil =>
    have HA : Hid (MatchPost w (atR (([] : List Parse), x) at_) (.returned (.tuple #[.agg #[.slice none 0 0], .bool false, .int .i64 x])) (z.setCell ⟨w.heap.size + 1, 0, none⟩ (.slice none 0 0))) :=
      ⟨none, 0, rfl, HZ.out.2.1.setCell (by simp) _, ⟨none, 0, rfl, .inl rfl⟩⟩
    by_cases hx : x = 0
    · subst hx
      go_wp2_with fail
      refine bodyPost_ret (results_cell_tmp2 rfl _ _ (w.heap.size + 1) _ _ _ _ rfl (show _ = some (Obj.cells (List.toArray _) _) from HZ.out.1.2.set 0 (.slice none 0 0)) Tryd.underlying41 rfl (by kernel_rfl)) rfl ?_
      exact HA.out
    · go_wp2_with fail
      refine bodyPost_ret (results_cell_tmp2 rfl _ _ (w.heap.size + 1) _ _ _ _ rfl (show _ = some (Obj.cells (List.toArray _) _) from HZ.out.1.2.set 0 (.slice none 0 0)) Tryd.underlying41 rfl (by kernel_rfl)) rfl ?_
      exact HA.out
  | cons q l =>
    have hx := (HOK.out.2 (by simp)).2
    subst hx
    obtain ⟨b, c', q1', q2', sa, sc, hq, ev, hbz, hpb, -, p0, p1, hsq⟩ := HZ.out.2.2.get (k := 0) (by simp)
    have hq' := Option.some.inj hq
    subst hq'
    injection ev with e1 e2 e3
    subst e1; subst e3
    clear e2 hq
    obtain ⟨n, hn⟩ : ∃ n, n = ((q1', q2') :: l).length := ⟨_, rfl⟩
    have hpos : 0 < n := by rw [hn]; simp
    have hposI : (0 : Int) < (n : Int) := by omega
    have hnz : ((n : Int) == 0) = false := by simp; omega
    have HSQ := hid hsq
    have HC0 := hid (⟨p0, p1, hbz⟩ : _ ∧ _ ∧ _)
    have hl9 : q2'.length ≤ 100 := by
      have h1 := (HOK.out.1 (q1', q2') (by simp)).2.2.1
      have h2 := (Re.ok_err (chk_zero (HOK.out.2 (by simp)).1).1).2.1
      dsimp only at h1
      omega
    have HC := hid (fun (y : World) (hy : Grow z.drew y) => (⟨((grow_below hy).cell (p := ⟨b, 0 * 2, none⟩) HC0.out.2.2).trans HC0.out.1, ((grow_below hy).cell (p := ⟨b, 0 * 2 + 1, none⟩) HC0.out.2.2).trans HC0.out.2.1⟩ : _ ∧ _))
    have HSP := hid (fun (y : World) (hy : Grow z.drew y) => HSQ.out.below (grow_below hy))
    have HR2 := hid (fun (y : World) (hy : Grow z.drew y) => (⟨HZ.out.1.2.below (grow_below hy) HZ.out.1.2.lt, HZ.out.2.1.trans ((grow_below hy).mono HZ.out.2.1.size)⟩ : Row y (w.heap.size + 1) _ _ ∧ Below w.heap.size w y))
    rw [← hn]
    simp only [Nat.zero_mul, Nat.zero_add] at p0 p1 HC
    clear hsq hbz hn hpb
    go_upto_region 4 with fail
    refine wp_region_inv 13 (Grow) (by kernel_rfl) (by kernel_rfl) (Grow.refl) (fun _ _ _ => Grow.trans) ?_
    simp only [fill, dstOf, Act.put, List.take_succ_cons, List.take_zero, List.getElem?_toArray, List.getElem?_cons_zero, List.getElem?_cons_succ, Option.bind_some, List.setIfInBounds_toArray, List.set_cons_zero, List.set_cons_succ]
    refine Plan.det 1 rfl (Grow.refl) ?_
    apply Exists.intro
    refine ⟨fun vs x hR hF K hK => ?_, ?_⟩
    · clear hF
      go_simp
      exact hK _ _ (Grow.refl _) rfl
    refine Plan.det 2 rfl (Grow.refl) ?_
    apply Exists.intro
    refine ⟨fun vs x hR hF K hK => ?_, ?_⟩
    · clear hF
      go_simp
      exact hK _ _ (Grow.refl _) rfl
    refine Plan.det 3 rfl (Grow.refl) ?_
    apply Exists.intro
    refine ⟨fun vs x hR hF K hK => ?_, ?_⟩
    · have f1 := hF 0 _ _ rfl rfl; clear hF
      go_simp
      exact hK _ _ (Grow.refl _) rfl
    refine Plan.det 4 rfl (Grow.refl) ?_
    apply Exists.intro
    refine ⟨fun vs x hR hF K hK => ?_, ?_⟩
    · have f2 := hF 0 _ _ rfl rfl; clear hF
      go_simp
      exact hK _ _ (Grow.refl _) rfl
    refine Plan.det 5 rfl (Grow.refl) ?_
    apply Exists.intro
    refine ⟨fun vs x hR hF K hK => ?_, ?_⟩
    · have f3 := hF 0 _ _ rfl rfl; have hc := HC.out x hR; clear hF
      go_simp
      exact hK _ _ (Grow.refl _) rfl
    refine Plan.det 6 rfl (Grow.refl) ?_
    apply Exists.intro
    refine ⟨fun vs x hR hF K hK => ?_, ?_⟩
    · have f0 := hF 4 _ _ rfl rfl; have f4 := hF 0 _ _ rfl rfl; clear hF
      go_simp
      exact hK _ _ (Grow.refl _) rfl
    refine Plan.rel 7 rfl (Grow.refl) (fun v y => ∃ (b5 : Nat), v = .slice (some ⟨b5, 0, none⟩) 1 1 ∧ Row y b5 [.int .i64 at_, .int .i64 q1'] 46) (fun v y z hR ⟨b5, h1, h2⟩ => ⟨b5, h1, h2.below hR h2.lt⟩) (fun vs x hR hF K hK => ?_) ?_
    · have f5 := hF 0 _ _ rfl rfl
      go_simp
      exact hK _ _ (Grow.alloc _ _) ⟨_, rfl, Row.at _ _ _⟩
    refine Plan.det 8 rfl (Grow.refl) ?_
    apply Exists.intro
    refine ⟨fun vs x hR hF K hK => ?_, ?_⟩
    · clear hF
      go_simp
      exact hK _ _ (Grow.refl _) rfl
    refine Plan.det 9 rfl (Grow.refl) ?_
    apply Exists.intro
    refine ⟨fun vs x hR hF K hK => ?_, ?_⟩
    · have f7 := hF 0 _ _ rfl rfl; clear hF
      go_simp
      exact hK _ _ (Grow.refl _) rfl
    refine Plan.det 10 rfl (Grow.refl) ?_
    apply Exists.intro
    refine ⟨fun vs x hR hF K hK => ?_, ?_⟩
    · have f8 := hF 0 _ _ rfl rfl; clear hF
      go_simp
      exact hK _ _ (Grow.refl _) rfl
    refine Plan.det 11 rfl (Grow.refl) ?_
    apply Exists.intro
    refine ⟨fun vs x hR hF K hK => ?_, ?_⟩
    · have f9 := hF 0 _ _ rfl rfl; have hc := HC.out x hR; clear hF
      go_simp
      exact hK _ _ (Grow.refl _) rfl
    refine Plan.rel 12 rfl (Grow.refl) (fun v y => ∃ (a2 : Option Addr) (c2 : Nat), v = .slice a2 (q2'.length + 1) c2 ∧ SpQ y (.slice a2 (q2'.length + 1) c2) ((at_, (q1' : Int)) :: q2')) (fun v y z hR ⟨a1, c1, h1, h2⟩ => ⟨a1, c1, h1, h2.below hR⟩) (fun vs x hR hF K hK => ?_) ?_
    · have f6 := hF 4 _ _ rfl rfl; have f10 := hF 0 _ _ rfl rfl
      obtain ⟨b5, e6, r6⟩ := f6
      refine gives_append_head _ _ rfl _ at_ q1' q2' _ e6 r6 f10 (HSP.out x hR) hl9 ?_
      intro a2 c2 w9 hb9 hs9
      exact hK _ _ hb9 ⟨a2, c2, rfl, hs9⟩
    refine Plan.rel 13 rfl (Grow.refl) (fun v y => ∃ (a2 : Option Addr) (c2 : Nat), v = .agg #[.slice a2 (q2'.length + 1) c2] ∧ SpQ y (.slice a2 (q2'.length + 1) c2) ((at_, (q1' : Int)) :: q2')) (fun v y z hR ⟨a1, c1, h1, h2⟩ => ⟨a1, c1, h1, h2.below hR⟩) (fun vs x hR hF K hK => ?_) ?_
    · have f11 := hF 0 _ _ rfl rfl
      obtain ⟨a2, c2, e9, h9⟩ := f11
      simp only [e9] at *
      go_simp
      exact hK _ _ (Grow.refl _) ⟨a2, c2, rfl, h9⟩
    refine Plan.nil (fun vs x hR hF => ?_)
    have f0 := hF 12 _ _ rfl; have f1 := hF 11 _ _ rfl; have f2 := hF 10 _ _ rfl; have f3 := hF 9 _ _ rfl; have f4 := hF 8 _ _ rfl; have f5 := hF 7 _ _ rfl; have f6 := hF 6 _ _ rfl; have f7 := hF 5 _ _ rfl; have f8 := hF 4 _ _ rfl; have f9 := hF 3 _ _ rfl; have f10 := hF 2 _ _ rfl; have f11 := hF 1 _ _ rfl; have f12 := hF 0 _ _ rfl
    clear hF
    simp only [f0, f1, f2, f3, f4, f5, f7, f8, f9, f10]
    clear f0 f1 f2 f3 f4 f5 f7 f8 f9 f10
    simp only [List.drop_succ_cons, List.drop_zero]
    obtain ⟨a2, c2, ev6, hs6⟩ := f12
    simp only [ev6]
    obtain ⟨T0, hb9⟩ := HR2.out x hR
    have hlx : w.heap.size + 1 < x.heap.size := T0.lt
    have p5 := T0.cell 0
    have p4 := T0.free 0
    have HT := hid T0
    have HFIN : Hid (MatchPost w (atR ((q1', q2') :: l, (0 : Int)) at_) (.returned (.tuple #[.agg #[.slice a2 (q2'.length + 1) c2], .bool true, .int .i64 0])) (x.setCell ⟨w.heap.size + 1, 0, none⟩ (.slice a2 (q2'.length + 1) c2))) := by
      refine ⟨a2, c2, rfl, hb9.setCell (by simp) _, ?_⟩
      exact hs6.of fun b8 cs8 hr8 => hr8.other (fun e => by subst e; exact absurd (hr8.typed T0) (by decide)) _ _
    clear T0 hs6 hb9 HC HSP HR2 HC0 hR p0 p1 q1 q2 f6 f11
    go_wp2_with fail
    refine bodyPost_ret (results_cell_tmp2 rfl _ _ (w.heap.size + 1) _ _ _ _ rfl (show _ = some (Obj.cells (List.toArray _) _) from HT.out.set 0 (.slice a2 (q2'.length + 1) c2)) Tryd.underlying41 rfl (by kernel_rfl)) rfl ?_
    exact HFIN.out
end Go.Proofs.YtkinnfejgpnddaaDoor

/- The program of layer 9: Leftmost. -/
namespace Go.Proofs.YtkinnfejgpnddaaDoor
open Go.RowKit
attribute [local go_sem] gives givesUpon

set_option maxRecDepth 100000 in
set_option maxHeartbeats 16000000 in
theorem PLeft_any (w : World) (t : Re) (cs : List Value) (s : ByteArray) (at_ : Int) (lines : Bool) (hin : t.In w cs) (hsz : t.size ≤ 20) (hs : s.size ≤ 1000000) (ht : Tabs9 w) :
    Calls Tryd.prog 17 #[.agg cs.toArray, .string s, .int .i64 at_, .bool lines] w (MatchPost w (leftmostR t s at_ lines)) := by
  cases t with
  | mk p xs =>
  have hin2 := hin
  rw [Re.In] at hin2
  obtain ⟨ad, cap, rfl, -⟩ := hin2
  simp only [Pay.cells] at hin ⊢
  have hb2 : Below w.heap.size w ((w.alloc (.cells #[.int .i64 p.op, .int .u64 p.set.a, .int .u64 p.set.b, .int .u64 p.set.c, .int .u64 p.set.d, .int .i64 p.lo, .int .i64 p.hi, .int .i64 p.gr, .slice ad xs.length cap] 28)).alloc (.cells #[.slice none 0 0] 41)) := ((Below.refl _ _).alloc (Nat.le_refl _) _).alloc (by simp) _
  have R0 : Row ((w.alloc (.cells #[.int .i64 p.op, .int .u64 p.set.a, .int .u64 p.set.b, .int .u64 p.set.c, .int .u64 p.set.d, .int .i64 p.lo, .int .i64 p.hi, .int .i64 p.gr, .slice ad xs.length cap] 28)).alloc (.cells #[.slice none 0 0] 41)) w.heap.size [.int .i64 p.op, .int .u64 p.set.a, .int .u64 p.set.b, .int .u64 p.set.c, .int .u64 p.set.d, .int .i64 p.lo, .int .i64 p.hi, .int .i64 p.gr, .slice ad xs.length cap] 28 := (Row.new rfl).alloc _
  have R1 : Row ((w.alloc (.cells #[.int .i64 p.op, .int .u64 p.set.a, .int .u64 p.set.b, .int .u64 p.set.c, .int .u64 p.set.d, .int .i64 p.lo, .int .i64 p.hi, .int .i64 p.gr, .slice ad xs.length cap] 28)).alloc (.cells #[.slice none 0 0] 41)) (w.heap.size + 1) [.slice none 0 0] 41 := Row.new (by simp)
  have HR := hid (⟨R0, R1⟩ : _ ∧ _)
  have HB2 := hid hb2
  have q0 := R0.c9
  have HCK := hid (pcheck_any ((w.alloc (.cells #[.int .i64 p.op, .int .u64 p.set.a, .int .u64 p.set.b, .int .u64 p.set.c, .int .u64 p.set.d, .int .i64 p.lo, .int .i64 p.hi, .int .i64 p.gr, .slice ad xs.length cap] 28)).alloc (.cells #[.slice none 0 0] 41)) (.mk p xs) [.int .i64 p.op, .int .u64 p.set.a, .int .u64 p.set.b, .int .u64 p.set.c, .int .u64 p.set.d, .int .i64 p.lo, .int .i64 p.hi, .int .i64 p.gr, .slice ad xs.length cap] s at_ (hin.below hb2) hsz hs)
  have HT := hid ht
  have HIN := hid hin
  clear hin hb2 R0 R1 ht
  go_enter Tryd.func17, Tryd.ntmps17
  go_wp2_with fail
  refine HCK.out.mono ?_
  rintro e z ⟨rfl, hb⟩
  have HZ := hid (⟨⟨HR.out.1.below hb HR.out.1.lt, HR.out.2.below hb HR.out.2.lt⟩, HB2.out.trans (hb.mono HB2.out.size)⟩ : (Row z _ _ _ ∧ Row z _ _ _) ∧ Below w.heap.size w z)
  clear hb q0 HCK HB2 HR
  have q0 := HZ.out.1.1.c9
  have q1 := HZ.out.1.2.cell 0
  have q2 := HZ.out.1.2.free 0
  obtain ⟨er, her⟩ : ∃ er, er = chk (.mk p xs) s at_ := ⟨_, rfl⟩
  have HER := hid her
  rw [← her]
  clear her
  by_cases he : er = 0
  · subst he
    · have hc : chk (.mk p xs) s at_ = 0 := HER.out.symm
      obtain ⟨h1, h2, h3⟩ := chk_zero hc
      obtain ⟨f, rfl⟩ : ∃ f : Nat, at_ = f := ⟨at_.toNat, by omega⟩
      have hf : f ≤ s.size := by omega
      have hfs : ¬ (s.size : Int) < (f : Int) := by omega
      have hf0 : ¬ (f : Int) < 0 := by omega
      have HLM : Hid (leftmostR (.mk p xs) s f lines = leftR (.mk p xs) s lines (s.size + 1 - f) f) := by show _ = _; unfold leftmostR; rw [if_neg (by simp [hc])]; rfl
      have HST : Hid (LefL (.mk p xs) s lines w [.int .i64 p.op, .int .u64 p.set.a, .int .u64 p.set.b, .int .u64 p.set.c, .int .u64 p.set.d, .int .i64 p.lo, .int .i64 p.hi, .int .i64 p.gr, .slice ad xs.length cap] f f z) := ⟨HZ.out.1, HZ.out.2, rfl⟩
      have hzlt := HZ.out.1.2.lt
      clear hc h1 h2 h3 HER HZ q0 q1 q2
      go_wp2_with fail
      go_loopw [12] (fun v wr => ∃ i : Nat, v = .int .i64 i ∧ f ≤ i ∧ i ≤ s.size + 1 ∧ Hid (LefL (.mk p xs) s lines w [.int .i64 p.op, .int .u64 p.set.a, .int .u64 p.set.b, .int .u64 p.set.c, .int .u64 p.set.d, .int .i64 p.lo, .int .i64 p.hi, .int .i64 p.gr, .slice ad xs.length cap] f i wr)) (fun v _ => s.size + 1 - (intOf v).toNat)
      case atStart => exact ⟨f, rfl, Nat.le_refl _, by omega, HST.out⟩
      case round =>
        obtain ⟨i, rfl, hfi, his, HX⟩ := hrel
        have q0 := HX.out.1.1.c9
        have q1 := HX.out.1.2.cell 0
        have q2 := HX.out.1.2.free 0
        by_cases hle : i ≤ s.size
        · have hleI : (i : Int) ≤ (s.size : Int) := by omega
          have hwi : IntKind.i64.wrap ((i : Int) + 1) = (i : Int) + 1 := by rw [IntKind.wrap_i64]; omega
          have ha := PAt9_any wr (.mk p xs) [.int .i64 p.op, .int .u64 p.set.a, .int .u64 p.set.b, .int .u64 p.set.c, .int .u64 p.set.d, .int .i64 p.lo, .int .i64 p.hi, .int .i64 p.gr, .slice ad xs.length cap] s i lines (HIN.out.below HX.out.2.1) hsz hs (HT.out.on HX.out.2.1)
          obtain ⟨⟨spr, okr, xr⟩, hr⟩ : ∃ r, r = atR (parsesR (.mk p xs) s i lines) i := ⟨_, rfl⟩
          rw [← hr] at ha
          have HA := hid ha
          have HRR := hid hr
          clear ha hr
          go_wp2_with fail
          refine HA.out.mono ?_
          rintro e z2 ⟨a, c, rfl, hb, hsq⟩
          have HZ2 := hid (⟨⟨HX.out.1.1.below hb HX.out.1.1.lt, HX.out.1.2.below hb HX.out.1.2.lt⟩, HX.out.2.1.trans (hb.mono HX.out.2.1.size), hsq⟩ : (Row z2 _ _ _ ∧ Row z2 _ _ _) ∧ Below w.heap.size w z2 ∧ SpQ z2 _ _)
          clear hb hsq q0 q1 q2
          dsimp only at HZ2 ⊢
          go_upto_region 8 with fail
          have hal : Below z2.heap.size z2 (z2.alloc (.cells #[.slice a spr.length c] 41)) := (Below.refl _ _).alloc (Nat.le_refl _) _
          have HZ3 := hid (⟨⟨HZ2.out.1.1.alloc (.cells #[.slice a spr.length c] 41), HZ2.out.1.2.alloc (.cells #[.slice a spr.length c] 41)⟩, HZ2.out.2.1.trans (hal.mono HZ2.out.2.1.size), HZ2.out.2.2.below hal, Row.new (w := z2) (cs := [.slice a spr.length c]) (T := 41) rfl⟩ : (Row _ _ _ _ ∧ Row _ _ _ _) ∧ Below w.heap.size w _ ∧ SpQ _ _ _ ∧ Row (z2.alloc (.cells #[.slice a spr.length c] 41)) z2.heap.size _ _)
          clear hal
          generalize (z2.alloc (.cells #[.slice a spr.length c] 41)) = z3 at HZ3 ⊢
          have q1 := HZ3.out.1.2.cell 0
          have q2 := HZ3.out.1.2.free 0
          have q3 := HZ3.out.2.2.2.cell 0
          have hcase : (xr = 0 ∧ okr = false) ∨ ((okr = true ∨ (okr = false ∧ ¬ xr = 0)) ∧ Hid (okr = true ∨ xr ≠ 0)) := by
            unfold Hid
            by_cases h1 : xr = 0 <;> cases okr <;> simp [h1]
          rcases hcase with ⟨h1, h2⟩ | ⟨h1 | ⟨h1, h2⟩, HH⟩
          · subst h1; subst h2
            have HN : Hid (LefL (.mk p xs) s lines w [.int .i64 p.op, .int .u64 p.set.a, .int .u64 p.set.b, .int .u64 p.set.c, .int .u64 p.set.d, .int .i64 p.lo, .int .i64 p.hi, .int .i64 p.gr, .slice ad xs.length cap] f (i + 1) z3) := ⟨HZ3.out.1, HZ3.out.2.1, by rw [HX.out.2.2]; exact leftR_miss hle HRR.out ⟨rfl, rfl⟩⟩
            clear HZ2 HZ3 q1 q2 q3 HX HST
            go_wp2_with fail
            refine ⟨⟨i + 1, by go_num, by omega, by omega, HN.out⟩, ?_⟩
            simp [intOf] <;> omega
          all_goals
            have hres : leftmostR (.mk p xs) s f lines = _ := HLM.out.trans (HX.out.2.2.trans (leftR_hit hle HRR.out HH.out))
            have HF : Hid (MatchPost w (leftmostR (.mk p xs) s f lines) (.returned (.tuple #[.agg #[.slice a spr.length c], .bool okr, .int .i64 xr])) (z3.setCell ⟨w.heap.size + 1, 0, none⟩ (.slice a spr.length c))) := by
              rw [hres]
              refine ⟨a, c, rfl, HZ3.out.2.1.setCell (by simp) _, HZ3.out.2.2.1.of fun b8 cs8 hr8 => hr8.other (fun e => by subst e; exact absurd (hr8.typed HZ3.out.1.2) (by decide)) _ _⟩
            clear hres
            try subst h1
            try subst h2
            go_wp2_with fail
            refine bodyPost_ret (results_cell_tmp2 rfl _ _ (w.heap.size + 1) _ _ _ _ rfl (show _ = some (Obj.cells (List.toArray _) _) from HZ3.out.1.2.set 0 (.slice a spr.length c)) Tryd.underlying41 rfl (by kernel_rfl)) rfl ?_
            exact HF.out
        · obtain rfl : i = s.size + 1 := by omega
          have hleI : ¬ ((s.size + 1 : Nat) : Int) ≤ (s.size : Int) := by omega
          have HF : Hid (MatchPost w (leftmostR (.mk p xs) s f lines) (.returned (.tuple #[.agg #[.slice none 0 0], .bool false, .int .i64 0])) (wr.setCell ⟨w.heap.size + 1, 0, none⟩ (.slice none 0 0))) := by
            have : leftmostR (.mk p xs) s f lines = ([], false, 0) := by rw [HLM.out, HX.out.2.2, Nat.sub_self]; rfl
            rw [this]
            exact ⟨none, 0, rfl, HX.out.2.1.setCell (by simp) _, ⟨none, 0, rfl, .inl rfl⟩⟩
          have HX2 := hid HX.out.1.2
          clear HX HST HLM
          go_wp2_with fail
          refine bodyPost_ret (results_cell_tmp2 rfl _ _ (w.heap.size + 1) _ _ _ _ rfl (show _ = some (Obj.cells (List.toArray _) _) from HX2.out.set 0 (.slice none 0 0)) Tryd.underlying41 rfl (by kernel_rfl)) rfl ?_
          exact HF.out
  · have hc : chk (.mk p xs) s at_ = er := HER.out.symm
    have HA : Hid (MatchPost w (leftmostR (.mk p xs) s at_ lines) (.returned (.tuple #[.agg #[.slice none 0 0], .bool false, .int .i64 er])) (z.setCell ⟨w.heap.size + 1, 0, none⟩ (.slice none 0 0))) := by
      have : leftmostR (.mk p xs) s at_ lines = ([], false, er) := by unfold leftmostR; rw [hc, if_pos he]
      rw [this]
      exact ⟨none, 0, rfl, HZ.out.2.setCell (by simp) _, ⟨none, 0, rfl, .inl rfl⟩⟩
    clear hc HER
    go_wp2_with fail
    refine bodyPost_ret (results_cell_tmp2 rfl _ _ (w.heap.size + 1) _ _ _ _ rfl (show _ = some (Obj.cells (List.toArray _) _) from HZ.out.1.2.set 0 (.slice none 0 0)) Tryd.underlying41 rfl (by kernel_rfl)) rfl ?_
    exact HA.out
end Go.Proofs.YtkinnfejgpnddaaDoor
