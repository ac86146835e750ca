/- The program of layer 9: parses of an alternative. -/
import Derived.Test.YtkinnfejgpnddaaDoorK09
import Derived.Test.YtkinnfejgpnddaaDoorK08
import Derived.Test.YtkinnfejgpnddaaDoorK04
import Derived.Test.YtkinnfejgpnddaaDoorK03
import Derived.Laws.StructEq
import Derived.WideKeyRuns
import Derived.Deep.Cut
import Derived.Deep.RegionLaw
import Derived.Deep.RegionWith
import Derived.Test.YtkinnfejgpnddaaDoorK07
namespace Go.Proofs.YtkinnfejgpnddaaDoor
open Go.RowKit
attribute [local go_sem] gives givesUpon givesPan givesUponP

/-- What the loop over alternatives keeps. -/
def AltK (s : ByteArray) (lines : Bool) (N i : Nat) (sp : Spans) (xs : List Re) (OB : Nat) (L : List Parse) (k : Nat) (ov : Value) (wr : World) : Prop :=
  altP s.data.toList lines (xs.take k) i sp = some L ∧ (L.length ≤ k * 4096 ∧ (∀ q, q ∈ L → POk N s.size i q)) ∧ OutV OB ov L wr
set_option maxRecDepth 100000 in
set_option maxHeartbeats 32000000 in
theorem ppar4 (wb : World) (N : Nat) (hN : N ≤ 9) (s : ByteArray) (hs : s.size ≤ 1000000) (lines : Bool) (p : Pay) (xs : List Re) (hop : p.op = 4) (HXS : ∀ x, x ∈ xs → PPar wb N s lines x) : PPar wb N s lines (.mk p xs) := by
  intro w cs M sa sc sp i hIn hok hsz hbw hM hsp hspo hi ht
  rw [Re.In] at hIn
  obtain ⟨ad, cap, rfl, hwf, -, -, -, hall⟩ := hIn
  simp only [Pay.cells]
  have hszx : Re.sizes xs ≤ 20 := by rw [Re.size_mk] at hsz; omega
  have hxl := sizes_len9 xs
  obtain ⟨n, hn⟩ : ∃ n, n = xs.length := ⟨_, rfl⟩
  have hn20 : n ≤ 20 := by omega
  have HNN := hid hn
  rw [← hn]
  have hP : PAt w M s lines [.int .i64 p.op, .int .u64 p.set.a, .int .u64 p.set.b, .int .u64 p.set.c, .int .u64 p.set.d, .int .i64 p.lo, .int .i64 p.hi, .int .i64 p.gr, .slice ad n cap] (.int .i64 i) (.slice sa sp.length sc) (((w.alloc (.cells #[.int .i64 p.op, .int .u64 p.set.a, .int .u64 p.set.b, .int .u64 p.set.c, .int .u64 p.set.d, .int .i64 p.lo, .int .i64 p.hi, .int .i64 p.gr, .slice ad n cap] 28)).alloc (.cells #[.int .i64 i, .slice sa sp.length sc] 48)).alloc (.cells #[.slice none 0 0] 33)) := ⟨((Row.new rfl).alloc _).alloc _, (Row.new (by simp)).alloc _, ((hM.alloc _).alloc _).alloc _, (((Below.refl _ _).alloc (Nat.le_refl _) _).alloc (by simp) _).alloc (by simp; omega) _⟩
  have hO : OutV (w.heap.size + 2) (.slice none 0 0) [] (((w.alloc (.cells #[.int .i64 p.op, .int .u64 p.set.a, .int .u64 p.set.b, .int .u64 p.set.c, .int .u64 p.set.d, .int .i64 p.lo, .int .i64 p.hi, .int .i64 p.gr, .slice ad n cap] 28)).alloc (.cells #[.int .i64 i, .slice sa sp.length sc] 48)).alloc (.cells #[.slice none 0 0] 33)) := ⟨Row.new (by simp), OwnP.nil _ _⟩
  have q0 := hP.1.c9
  have q1 := hP.2.2.1.two9
  have HP := hid (⟨hP, hO⟩ : _ ∧ _)
  have HT := hid ht
  have HO := hid hop
  have HMW := hid hM.lt
  have hsl : s.data.toList.length = s.size := by rw [Array.length_toList]; rfl
  rw [Re.ok] at hok
  have hoks := hok.2.2.2.2
  have HPA : Hid (parses s.data.toList lines (.mk p xs) i sp = (altP s.data.toList lines xs i sp).bind (fin s.size)) := by
    show _ = _; rw [parses]; simp only [hop, hsl]; rfl
  have HKID := hid (fun (x : World) (k : Nat) (hk : k < xs.length) (hx : Below w.heap.size w x) => hall.kid (hbw.trans (hx.mono hbw.size)) k hk)
  have HLEN := hid (fun (k : Nat) (hk : k < xs.length) l (h : parses s.data.toList lines xs[k] i sp = some l) => parses_len (Re.oks_get9 hoks k hk) (by rw [hsl]; exact hi) (by rw [hsl]; exact hspo) h)
  have hpok := fun (k : Nat) (hk : k < xs.length) l (h : parses s.data.toList lines xs[k] i sp = some l) => parses_ok s.data.toList lines N xs[k] i sp l (Re.oks_get9 hoks k hk) (by rw [hsl]; exact hi) (by rw [hsl]; exact hspo) h
  rw [hsl] at hpok
  have HPOK := hid hpok
  have HCH := hid (fun (x : World) (k : Nat) (hk : k < xs.length) (cs : List Value) (hin : Re.In wb xs[k] cs) (hx : Below w.heap.size w x) => HXS xs[k] (List.getElem_mem hk) x cs M sa sc sp i hin (Re.oks_get9 hoks k hk) (Nat.le_trans (size_kid9 xs k hk) hszx) (hbw.trans (hx.mono hbw.size)) (hM.below hx hM.lt) (hsp.of (fun _ _ hr => hr.below hx hr.lt)) hspo hi (ht.on hx))
  clear hP hO hall hok hsz hszx hbw hM hsp hspo ht hop hsl hxl hpok HXS hn hoks
  have e1 : (p.op == 1) = false := by rw [HO.out]; decide
  have e2 : (p.op == 2) = false := by rw [HO.out]; decide
  have e7 : (p.op == 7) = false := by rw [HO.out]; decide
  have e8 : (p.op == 8) = false := by rw [HO.out]; decide
  have e9 : (p.op == 9) = false := by rw [HO.out]; decide
  have e6 : (p.op == 6) = false := by rw [HO.out]; decide
  have e4 : (p.op == 4) = true := by rw [HO.out]; decide
  go_enter Tryd.func46, Tryd.ntmps46
  go_wp2_with fail
  clear q0 q1
  go_loopw [177] (fun v177 wr => ∃ (k : Nat) (L : List Parse) (ov : Value), v177 = .int .i64 k ∧ k ≤ n ∧ Hid (AltK s lines N i sp xs (w.heap.size + 2) L k ov wr ∧ PAt w M s lines [.int .i64 p.op, .int .u64 p.set.a, .int .u64 p.set.b, .int .u64 p.set.c, .int .u64 p.set.d, .int .i64 p.lo, .int .i64 p.hi, .int .i64 p.gr, .slice ad n cap] (.int .i64 i) (.slice sa sp.length sc) wr)) (fun v177 _ => n - (intOf v177).toNat)
  case atStart => exact ⟨0, [], _, rfl, Nat.zero_le _, ⟨by simp [altP], ⟨by simp, fun _ h => by cases h⟩, HP.out.2⟩, HP.out.1⟩
  case round =>
    obtain ⟨k, L, ov, rfl, hk, HX⟩ := hrel
    by_cases hlt : k < n
    · have hltI : (k : Int) < (n : Int) := by omega
      have hkx : k < xs.length := by have := HNN.out; omega
      obtain ⟨bb, o, p', ad', n', cap', e3, HXC, HXI, hbb⟩ := HKID.out wr k hkx HX.out.2.2.2.2
      subst e3
      have hal : Below wr.heap.size wr (wr.alloc (.cells #[.int .i64 p'.op, .int .u64 p'.set.a, .int .u64 p'.set.b, .int .u64 p'.set.c, .int .u64 p'.set.d, .int .i64 p'.lo, .int .i64 p'.hi, .int .i64 p'.gr, .slice ad' n' cap'] 28)) := (Below.refl _ _).alloc (Nat.le_refl _) _
      have HY := hid (⟨HX.out.1.2.2.below hal, HX.out.2.later hal, Row.new (w := wr) (cs := [.int .i64 p'.op, .int .u64 p'.set.a, .int .u64 p'.set.b, .int .u64 p'.set.c, .int .u64 p'.set.d, .int .i64 p'.lo, .int .i64 p'.hi, .int .i64 p'.gr, .slice ad' n' cap']) (T := 28) rfl⟩ : OutV (w.heap.size + 2) ov L (wr.alloc (.cells #[.int .i64 p'.op, .int .u64 p'.set.a, .int .u64 p'.set.b, .int .u64 p'.set.c, .int .u64 p'.set.d, .int .i64 p'.lo, .int .i64 p'.hi, .int .i64 p'.gr, .slice ad' n' cap'] 28)) ∧ PAt w M s lines _ (.int .i64 i) (.slice sa sp.length sc) (wr.alloc (.cells #[.int .i64 p'.op, .int .u64 p'.set.a, .int .u64 p'.set.b, .int .u64 p'.set.c, .int .u64 p'.set.d, .int .i64 p'.lo, .int .i64 p'.hi, .int .i64 p'.gr, .slice ad' n' cap'] 28)) ∧ Row (wr.alloc (.cells #[.int .i64 p'.op, .int .u64 p'.set.a, .int .u64 p'.set.b, .int .u64 p'.set.c, .int .u64 p'.set.d, .int .i64 p'.lo, .int .i64 p'.hi, .int .i64 p'.gr, .slice ad' n' cap'] 28)) wr.heap.size _ _)
      have HC := hid (fun (x : World) (hx : Grow ((wr.alloc (.cells #[.int .i64 p'.op, .int .u64 p'.set.a, .int .u64 p'.set.b, .int .u64 p'.set.c, .int .u64 p'.set.d, .int .i64 p'.lo, .int .i64 p'.hi, .int .i64 p'.gr, .slice ad' n' cap'] 28))).drew x) => (⟨(HY.out.2.2.grow hx).c9, (HY.out.1.below (grow_below hx)).1.cell 0⟩ : _ ∧ _))
      have HCK := hid (fun (x : World) (hx : Below wr.heap.size wr x) => HCH.out x k hkx _ HXI.out (HX.out.2.2.2.2.trans (hx.mono HX.out.2.2.2.2.size)))
      have HSTEP := hid (fun l (h : parses s.data.toList lines xs[k] i sp = some l) => altP_step s.data.toList lines hkx HX.out.1.1 h)
      have HNONE := hid (fun (h : parses s.data.toList lines xs[k] i sp = none) => altP_none s.data.toList lines hkx h)
      have HPO := hid (HPOK.out k hkx)
      have HLE := hid (HLEN.out k hkx)
      have HWR := hid hal
      obtain ⟨r, hr⟩ : ∃ r, r = parses s.data.toList lines xs[k] i sp := ⟨_, rfl⟩
      rw [← hr] at HCK HSTEP HNONE HPO HLE
      clear hr hal
      go_upto_region 28 with (with_reducible (refine wpList_load_agg rfl 28 _ rfl bb (o + k * 9) rfl _ _ HXC.out Tryd.underlying28 rfl (size_re9 _ _ _ _ _ _ _ _ _) ?_))
      cases r with
      | none =>
        refine wp_region_pan 5 (Grow) (by kernel_rfl) (by kernel_rfl) (Grow.refl) (fun _ _ _ => Grow.trans) ?_
        simp only [fill, dstOf, Act.put, List.take_succ_cons, List.take_zero, List.getElem?_toArray, List.getElem?_cons_zero, List.getElem?_cons_succ, Option.bind_some, List.setIfInBounds_toArray, List.set_cons_zero, List.set_cons_succ]
        refine PlanP.det 1 rfl (Grow.refl) ?_
        apply Exists.intro
        refine ⟨fun vs x hR hF K hK => ?_, ?_⟩
        · have hc := HC.out x hR; clear hF
          go_simp
          exact hK _ _ (Grow.refl _) rfl
        refine PlanP.det 2 rfl (Grow.refl) ?_
        apply Exists.intro
        refine ⟨fun vs x hR hF K hK => ?_, ?_⟩
        · clear hF
          go_simp
          exact hK _ _ (Grow.refl _) rfl
        refine PlanP.det 3 rfl (Grow.refl) ?_
        apply Exists.intro
        refine ⟨fun vs x hR hF K hK => ?_, ?_⟩
        · have hc := HC.out x hR; clear hF
          go_simp
          exact hK _ _ (Grow.refl _) rfl
        refine PlanP.det 4 rfl (Grow.refl) ?_
        apply Exists.intro
        refine ⟨fun vs x hR hF K hK => ?_, ?_⟩
        · clear hF
          go_simp
          exact hK _ _ (Grow.refl _) rfl
        refine PlanP.det 5 rfl (Grow.refl) ?_
        apply Exists.intro
        refine ⟨fun vs x hR hF K hK => ?_, ?_⟩
        · clear hF
          go_simp
          exact hK _ _ (Grow.refl _) rfl
        refine PlanP.nil (fun vs x hR hF => ?_)
        have f1 := hF 3 _ _ rfl rfl; have f2 := hF 2 _ _ rfl rfl; have f3 := hF 1 _ _ rfl rfl; have f4 := hF 0 _ _ rfl rfl
        clear hF
        intro oo hoo KQ hK
        obtain rfl := Option.some.inj hoo
        clear hoo
        simp only [f1, f2, f3, f4]
        clear f1 f2 f3 f4
        go_simp
        refine (HCK.out x (HWR.out.trans ((grow_below hR).mono HWR.out.size))).mono ?_
        rintro e z ⟨hb2, rfl⟩
        refine ⟨_, rfl, hK _ _ fun A hA => ?_⟩
        clear hK
        refine And.intro hA ?_
        show ParP w _ (.panicked exh) z
        rw [HPA.out, HNONE.out rfl]
        exact ⟨HX.out.2.2.2.2.trans ((HWR.out.trans ((grow_below hR).mono HWR.out.size) |>.trans (hb2.mono (HWR.out.trans ((grow_below hR).mono HWR.out.size)).size)).mono HX.out.2.2.2.2.size), rfl⟩
      | some l =>
        refine wp_region_inv 6 (Grow) (by kernel_rfl) (by kernel_rfl) (Grow.refl) (fun _ _ _ => Grow.trans) ?_
        simp only [fill, dstOf, Act.put, List.take_succ_cons, List.take_zero, List.getElem?_toArray, List.getElem?_cons_zero, List.getElem?_cons_succ, Option.bind_some, List.setIfInBounds_toArray, List.set_cons_zero, List.set_cons_succ]
        refine Plan.det 1 rfl (Grow.refl) ?_
        apply Exists.intro
        refine ⟨fun vs x hR hF K hK => ?_, ?_⟩
        · have hc := HC.out x hR; clear hF
          go_simp
          exact hK _ _ (Grow.refl _) rfl
        refine Plan.det 2 rfl (Grow.refl) ?_
        apply Exists.intro
        refine ⟨fun vs x hR hF K hK => ?_, ?_⟩
        · clear hF
          go_simp
          exact hK _ _ (Grow.refl _) rfl
        refine Plan.det 3 rfl (Grow.refl) ?_
        apply Exists.intro
        refine ⟨fun vs x hR hF K hK => ?_, ?_⟩
        · have hc := HC.out x hR; clear hF
          go_simp
          exact hK _ _ (Grow.refl _) rfl
        refine Plan.det 4 rfl (Grow.refl) ?_
        apply Exists.intro
        refine ⟨fun vs x hR hF K hK => ?_, ?_⟩
        · clear hF
          go_simp
          exact hK _ _ (Grow.refl _) rfl
        refine Plan.det 5 rfl (Grow.refl) ?_
        apply Exists.intro
        refine ⟨fun vs x hR hF K hK => ?_, ?_⟩
        · clear hF
          go_simp
          exact hK _ _ (Grow.refl _) rfl
        refine Plan.rel 6 rfl (Grow.refl) (fun v y => ∃ (a2 : Option Addr) (c2 : Nat), v = .slice a2 l.length c2 ∧ PsQ (wr.heap.size ≤ ·) y (.slice a2 l.length c2) l) (fun v y1 y2 hR ⟨a2, c2, h1, h2⟩ => ⟨a2, c2, h1, h2.below hR⟩) (fun vs x hR hF K hK => ?_) ?_
        · have f1 := hF 3 _ _ rfl rfl; have f2 := hF 2 _ _ rfl rfl; have f3 := hF 1 _ _ rfl rfl; have f4 := hF 0 _ _ rfl rfl
          go_simp
          refine (HCK.out x (HWR.out.trans ((grow_below hR).mono HWR.out.size))).mono ?_
          rintro e x1 ⟨hbe, a2, c2, rfl, h1⟩
          exact ⟨_, rfl, hK _ _ hbe ⟨a2, c2, rfl, h1.mono (fun b _ hb => Nat.le_trans (HWR.out.trans ((grow_below hR).mono HWR.out.size)).size hb)⟩⟩
        refine Plan.nil (fun vs x hR hF => ?_)
        have f0 := hF 5 _ _ rfl; have f1 := hF 4 _ _ rfl; have f2 := hF 3 _ _ rfl; have f3 := hF 2 _ _ rfl; have f4 := hF 1 _ _ rfl; have f5 := hF 0 _ _ rfl
        clear hF
        simp only [f0, f1, f2, f3, f4]
        clear f0 f1 f2 f3 f4
        simp only [List.drop_succ_cons, List.drop_zero]
        obtain ⟨a5, c5, e5, h5⟩ := f5
        have HXB := hid (grow_below hR)
        have HOX := hid (HY.out.1.below HXB.out)
        have HPX := hid (HY.out.2.1.later HXB.out)
        have hl4 := HLE.out l rfl
        have HPS := hid h5
        have HLL : Hid (L.length + l.length ≤ 1000000) := by have := HX.out.1.2.1.1; show _ ≤ _; omega
        simp only [e5]
        clear h5 HC hR HLE HCK
        at_builtin
        refine wpList_append_ps rfl _ _ rfl (w.heap.size + 3) _ L l _ _ rfl HOX.out.2 rfl HPS.out HLL.out (by have := HPX.out.2.2.2.size; have h9 := HOX.out.1.lt; omega) ?_
        intro a' n9 c' w3 hn9 hown hg hnew
        have hX3 : Row w3 (w.heap.size + 2) [ov] 33 := by
          obtain ⟨_, Lo, o1, o2, o3⟩ := HOX.out.2
          exact HOX.out.1.grownOwn o3 (by decide) hg
        have q3 := hX3.cell 0
        have f3 := hX3.free 0
        have hp := HOX.out.put hown hg hnew rfl
        have HX3 := hid (⟨hp.1, HPX.out.low (hp.low HOX.out) (Nat.le_refl _) HMW.out⟩ : OutV _ _ _ _ ∧ PAt w M s lines _ (.int .i64 i) (.slice sa sp.length sc) _)
        have HLA := hid (HSTEP.out l rfl)
        have HLB : Hid ((L ++ l).length ≤ (k + 1) * 4096 ∧ ∀ q, q ∈ L ++ l → POk N s.size i q) := ⟨by have := HX.out.1.2.1.1; rw [List.length_append]; omega, fun q hq => by
          rcases List.mem_append.1 hq with h | h
          · exact HX.out.1.2.1.2 q h
          · exact HPO.out l rfl q h⟩
        clear hn9 hown hg hnew hX3 hp
        go_wp2_with fail
        exact ⟨⟨k + 1, L ++ l, _, by rw [Int.natCast_add]; rfl, hlt, hid ⟨⟨HLA.out, HLB.out, HX3.out.1⟩, HX3.out.2⟩⟩, by simp [intOf]; omega⟩
    · have hke : k = n := by omega
      have hltI : ¬ (k : Int) < (n : Int) := by omega
      have hAL : altP s.data.toList lines xs i sp = some L := by have h := HX.out.1.1; rwa [List.take_of_length_le (by have := HNN.out; omega)] at h
      have HPA2 : Hid (fin s.size L = parses s.data.toList lines (.mk p xs) i sp) := by show _ = _; rw [HPA.out, hAL]; rfl
      have hml : L.length ≤ 200000 := by have := HX.out.1.2.1.1; omega
      have hmk : ∀ q, q ∈ L → POk N s.size 0 q := fun q hq => by
        have h2 := HX.out.1.2.1.2 q hq
        exact ⟨Nat.zero_le _, h2.2.1, h2.2.2⟩
      have q3 := HX.out.1.2.2.1.cell 0
      have HE := hid (pend_any w wr _ ov _ N s.size _ HX.out.1.2.2 HX.out.2.2.2.2 hml hmk hN hs HT.out HPA2.out)
      clear HX hml hmk hke hAL
      go_wp2_with fail
      refine HE.out.mono ?_
      rintro e z2 ⟨hb2, h2⟩
      obtain ⟨r2, hr2⟩ : ∃ r2, r2 = parses s.data.toList lines (.mk p xs) i sp := ⟨_, rfl⟩
      rw [← hr2] at h2
      have HR2 := hid hr2
      clear hr2
      cases r2 with
      | none =>
        subst h2
        refine ⟨rfl, ?_⟩
        rw [← HR2.out]
        exact ⟨hb2, rfl⟩
      | some l2 =>
        obtain ⟨a2, c2, rfl, h2⟩ := h2
        have HR := hid (⟨hb2, h2⟩ : _ ∧ _)
        clear hb2 h2
        go_wp2_with fail
        go_ret
        rw [← HR2.out]
        exact ⟨HR.out.1, a2, c2, rfl, HR.out.2⟩
end Go.Proofs.YtkinnfejgpnddaaDoor

/- The program of layer 9: parses of one tree after the other. -/
namespace Go.Proofs.YtkinnfejgpnddaaDoor
open Go.RowKit
attribute [local go_sem] gives givesUpon givesPan givesUponP

/-- The end: out is sorted. -/
theorem pend2_any (w z : World) (p : Nat → Prop) (ov : Value) (l : List Parse) (N K : Nat) (r : Option (List Parse)) (ho : PsQ p z ov l) (hb : Below w.heap.size w z) (hl : l.length ≤ 200000) (hok : ∀ q, q ∈ l → POk N K 0 q) (hN : N ≤ 9) (hK : K ≤ 1000000) (ht : Tabs9 w) (hr : fin K l = r) :
    Calls Tryd.prog 69 #[ov] z (ParP w r) :=
  (psorted_any z _ ov l K ho hl (fun q hq => (hok q hq).fine hN hK) (fun q hq => (hok q hq).2.1) (ht.on hb)).mono fun _ _ h => h.on hb hr
/-- What the loop over trees keeps. -/
def CatB (w : World) (M : Nat) (s : ByteArray) (lines : Bool) (BXL : List Value) (iv sv : Value) (l : List Parse) (a : Option Addr) (m c : Nat) (x : World) : Prop :=
  PAt w M s lines BXL iv sv x ∧ Row x (w.heap.size + 2) [.slice a m c] 33 ∧ PsQ (fun _ => True) x (.slice a m c) l ∧ m = l.length
theorem CatB.below {w : World} {M : Nat} {s : ByteArray} {lines : Bool} {BXL : List Value} {iv sv : Value} {l : List Parse} {a : Option Addr} {m c : Nat} {x y : World} (h : CatB w M s lines BXL iv sv l a m c x) (hb : Below x.heap.size x y) : CatB w M s lines BXL iv sv l a m c y :=
  ⟨h.1.later hb, h.2.1.below hb h.2.1.lt, h.2.2.1.below hb, h.2.2.2⟩
theorem CatB.put {w : World} {M : Nat} {s : ByteArray} {lines : Bool} {BXL : List Value} {iv sv : Value} {l l' : List Parse} {a a' : Option Addr} {m c m' c' : Nat} {x : World} {p : Nat → Prop} (h : CatB w M s lines BXL iv sv l a m c x) (hps : PsQ p x (.slice a' m' c') l') (hm : m' = l'.length) (hM : M < w.heap.size) : CatB w M s lines BXL iv sv l' a' m' c' (x.setCell ⟨w.heap.size + 2, 0, none⟩ (.slice a' m' c')) := by
  have hbt : But [w.heap.size + 2] x (x.setCell ⟨w.heap.size + 2, 0, none⟩ (.slice a' m' c')) := (But.of_below (Below.refl _ _) : But [w.heap.size + 2] x x).setCell (p := ⟨w.heap.size + 2, 0, none⟩) (.inl (by simp)) _
  have hlt := h.2.1.lt
  refine ⟨h.1.low (n := w.heap.size + 2) (hbt.below (by omega) fun k hk => by rw [List.mem_singleton.1 hk]; exact Nat.le_refl _) (Nat.le_refl _) hM, h.2.1.set 0 _, hps.of (fun b cs hr => hr.other (fun e => by subst e; exact absurd (hr.typed h.2.1) (by decide)) _ _) fun b cs _ hr => ⟨hr.other (fun e => by subst e; exact absurd (hr.typed h.2.1) (by decide)) _ _, trivial⟩, hm⟩
theorem onceR_le {l r : List Parse} (h : onceR l = some r) : r.length ≤ 4096 ∧ ∀ q, q ∈ r → q ∈ l := by
  unfold onceR at h
  split at h
  · cases h
  · rename_i h1
    have := Option.some.inj h
    subst this
    exact ⟨Nat.le_of_not_lt h1, fun q hq => nub_mem.1 hq⟩
/-- What the list comes to. -/
def CatQ (s : ByteArray) (lines : Bool) (N i : Nat) (sp : Spans) (xs : List Re) (k : Nat) (l : List Parse) : Prop :=
  catP s.data.toList lines (xs.take k) [(i, sp)] = some l ∧ l.length ≤ 4096 ∧ ∀ q, q ∈ l → POk N s.size i q
set_option maxRecDepth 100000 in
set_option maxHeartbeats 32000000 in
theorem ppar3 (wb : World) (N : Nat) (hN : N ≤ 9) (s : ByteArray) (hs : s.size ≤ 1000000) (lines : Bool) (p : Pay) (xs : List Re) (hop : p.op = 3) (HXS : ∀ x, x ∈ xs → PPar wb N s lines x) : PPar wb N s lines (.mk p xs) := by
  intro w cs M sa sc sp i hIn hok hsz hbw hM hsp hspo hi ht
  rw [Re.In] at hIn
  obtain ⟨ad, cap, rfl, hwf, -, -, -, hall⟩ := hIn
  simp only [Pay.cells]
  have hszx : Re.sizes xs ≤ 20 := by rw [Re.size_mk] at hsz; omega
  have hxl := sizes_len9 xs
  obtain ⟨n, hn⟩ : ∃ n, n = xs.length := ⟨_, rfl⟩
  have hn20 : n ≤ 20 := by omega
  have HNN := hid hn
  rw [← hn]
  have hP : PAt w M s lines [.int .i64 p.op, .int .u64 p.set.a, .int .u64 p.set.b, .int .u64 p.set.c, .int .u64 p.set.d, .int .i64 p.lo, .int .i64 p.hi, .int .i64 p.gr, .slice ad n cap] (.int .i64 i) (.slice sa sp.length sc) (((w.alloc (.cells #[.int .i64 p.op, .int .u64 p.set.a, .int .u64 p.set.b, .int .u64 p.set.c, .int .u64 p.set.d, .int .i64 p.lo, .int .i64 p.hi, .int .i64 p.gr, .slice ad n cap] 28)).alloc (.cells #[.int .i64 i, .slice sa sp.length sc] 48)).alloc (.cells #[.slice none 0 0] 33)) := ⟨((Row.new rfl).alloc _).alloc _, (Row.new (by simp)).alloc _, ((hM.alloc _).alloc _).alloc _, (((Below.refl _ _).alloc (Nat.le_refl _) _).alloc (by simp) _).alloc (by simp; omega) _⟩
  have hO : OutV (w.heap.size + 2) (.slice none 0 0) [] (((w.alloc (.cells #[.int .i64 p.op, .int .u64 p.set.a, .int .u64 p.set.b, .int .u64 p.set.c, .int .u64 p.set.d, .int .i64 p.lo, .int .i64 p.hi, .int .i64 p.gr, .slice ad n cap] 28)).alloc (.cells #[.int .i64 i, .slice sa sp.length sc] 48)).alloc (.cells #[.slice none 0 0] 33)) := ⟨Row.new (by simp), OwnP.nil _ _⟩
  have q0 := hP.1.c9
  have q1 := hP.2.2.1.two9
  have HP := hid (⟨hP, hO⟩ : _ ∧ _)
  have HSP := hid (⟨hsp, hspo⟩ : _ ∧ _)
  have q2 := hP.2.1.two9
  have q3 := hO.1.cell 0
  have f3 := hO.1.free 0
  have HT := hid ht
  have HO := hid hop
  have HMW := hid hM.lt
  have HM := hid hM
  have hsl : s.data.toList.length = s.size := by rw [Array.length_toList]; rfl
  rw [Re.ok] at hok
  have hoks := hok.2.2.2.2
  have HPA : Hid (parses s.data.toList lines (.mk p xs) i sp = (catP s.data.toList lines xs [(i, sp)]).bind (fin s.size)) := by
    show _ = _; rw [parses]; simp only [hop, hsl]; rfl
  have HKID := hid (fun (x : World) (k : Nat) (hk : k < xs.length) (hx : Below w.heap.size w x) => hall.kid (hbw.trans (hx.mono hbw.size)) k hk)
  have HLEN := hid (fun (k : Nat) (hk : k < xs.length) (i : Nat) (sp : Spans) (hi : i ≤ s.size) (hspo : SpOk N s.size sp) l (h : parses s.data.toList lines xs[k] i sp = some l) => parses_len (Re.oks_get9 hoks k hk) (by rw [hsl]; exact hi) (by rw [hsl]; exact hspo) h)
  have hpok := fun (k : Nat) (hk : k < xs.length) (i : Nat) (sp : Spans) (hi : i ≤ s.size) (hspo : SpOk N s.size sp) l (h : parses s.data.toList lines xs[k] i sp = some l) => (show ∀ q, q ∈ l → POk N s.size i q from by have h9 := parses_ok s.data.toList lines N xs[k] i sp l (Re.oks_get9 hoks k hk) (by rw [hsl]; exact hi) (by rw [hsl]; exact hspo) h; rwa [hsl] at h9)
  have HPOK := hid hpok
  have HCH := hid (fun (x : World) (k : Nat) (hk : k < xs.length) (cs : List Value) (hin : Re.In wb xs[k] cs) (hx : Below w.heap.size w x) (sa : Option Addr) (sc : Nat) (sp : Spans) (i : Nat) (hsp : SpQ x (.slice sa sp.length sc) sp) (hspo : SpOk N s.size sp) (hi : i ≤ s.size) => HXS xs[k] (List.getElem_mem hk) x cs M sa sc sp i hin (Re.oks_get9 hoks k hk) (Nat.le_trans (size_kid9 xs k hk) hszx) (hbw.trans (hx.mono hbw.size)) (hM.below hx hM.lt) hsp hspo hi (ht.on hx))
  clear hP hO hall hok hsz hszx hbw hM hsp hspo ht hop hsl hxl hpok HXS hn hoks
  have e1 : (p.op == 1) = false := by rw [HO.out]; decide
  have e2 : (p.op == 2) = false := by rw [HO.out]; decide
  have e7 : (p.op == 7) = false := by rw [HO.out]; decide
  have e8 : (p.op == 8) = false := by rw [HO.out]; decide
  have e9 : (p.op == 9) = false := by rw [HO.out]; decide
  have e6 : (p.op == 6) = false := by rw [HO.out]; decide
  have e4 : (p.op == 4) = false := by rw [HO.out]; decide
  have e3 : (p.op == 3) = true := by rw [HO.out]; decide
  go_enter Tryd.func46, Tryd.ntmps46
  have hP5 : PAt w M s lines [.int .i64 p.op, .int .u64 p.set.a, .int .u64 p.set.b, .int .u64 p.set.c, .int .u64 p.set.d, .int .i64 p.lo, .int .i64 p.hi, .int .i64 p.gr, .slice ad n cap] (.int .i64 i) (.slice sa sp.length sc) ((((w.alloc (.cells #[.int .i64 p.op, .int .u64 p.set.a, .int .u64 p.set.b, .int .u64 p.set.c, .int .u64 p.set.d, .int .i64 p.lo, .int .i64 p.hi, .int .i64 p.gr, .slice ad n cap] 28)).alloc (.cells #[.int .i64 i, .slice sa sp.length sc] 48)).alloc (.cells #[.slice (some ⟨w.heap.size + 1 + 1 + 1, 0, none⟩) 1 1] 33)).alloc (.cells #[.int .i64 i, .slice sa sp.length sc] 48)) := ⟨(((Row.new rfl).alloc _).alloc _).alloc _, ((Row.new (by simp)).alloc _).alloc _, (((HM.out.alloc _).alloc _).alloc _).alloc _, ((((Below.refl _ _).alloc (Nat.le_refl _) _).alloc (by simp) _).alloc (by simp; omega) _).alloc (by simp; omega) _⟩
  have HZ : Hid (CatB w M s lines [.int .i64 p.op, .int .u64 p.set.a, .int .u64 p.set.b, .int .u64 p.set.c, .int .u64 p.set.d, .int .i64 p.lo, .int .i64 p.hi, .int .i64 p.gr, .slice ad n cap] (.int .i64 i) (.slice sa sp.length sc) [(i, sp)] (some ⟨w.heap.size + 1 + 1 + 1, 0, none⟩) 1 1 ((((w.alloc (.cells #[.int .i64 p.op, .int .u64 p.set.a, .int .u64 p.set.b, .int .u64 p.set.c, .int .u64 p.set.d, .int .i64 p.lo, .int .i64 p.hi, .int .i64 p.gr, .slice ad n cap] 28)).alloc (.cells #[.int .i64 i, .slice sa sp.length sc] 48)).alloc (.cells #[.slice (some ⟨w.heap.size + 1 + 1 + 1, 0, none⟩) 1 1] 33)).alloc (.cells #[.int .i64 i, .slice sa sp.length sc] 48))) :=
    ⟨hP5, (Row.new (by simp)).alloc _, (PsQ.lit (q := (i, sp)) (Row.new (by simp)) (HSP.out.1.of (fun _ _ hr => hr.below hP5.2.2.2 hr.lt))).mono (fun _ _ _ => trivial), rfl⟩
  have HQ0 : Hid (CatQ s lines N i sp xs 0 [(i, sp)]) := ⟨by rw [List.take_zero, catP], by simp, fun q hq => by rw [List.mem_singleton.1 hq]; exact ⟨Nat.le_refl _, hi, HSP.out.2⟩⟩
  clear hP5
  go_upto_region 32 with fail
  clear q0 q1 q2 q3 f3
  have q0 := HZ.out.1.1.c9
  go_wp2_with fail
  clear q0
  go_loopw [196] (fun v196 wr => ∃ (k : Nat) (l : List Parse) (oa : Option Addr) (m oc : Nat), v196 = .int .i64 k ∧ k ≤ n ∧ Hid (CatQ s lines N i sp xs k l ∧ CatB w M s lines [.int .i64 p.op, .int .u64 p.set.a, .int .u64 p.set.b, .int .u64 p.set.c, .int .u64 p.set.d, .int .i64 p.lo, .int .i64 p.hi, .int .i64 p.gr, .slice ad n cap] (.int .i64 i) (.slice sa sp.length sc) l oa m oc wr)) (fun v196 _ => n - (intOf v196).toNat)
  case atStart => exact ⟨0, _, _, _, _, rfl, Nat.zero_le _, HQ0.out, HZ.out⟩
  case round =>
    obtain ⟨k, l, oa, m, oc, rfl, hk, HX⟩ := hrel
    clear HZ HQ0
    have q3 := HX.out.2.2.1.cell 0
    by_cases hlt : k < n
    · have hltI : (k : Int) < (n : Int) := by omega
      have hkx : k < xs.length := by have := HNN.out; omega
      obtain ⟨bb, o, p', ad', n', cap', e3, HXC, HXI, hbb⟩ := HKID.out wr k hkx HX.out.2.1.2.2.2
      subst e3
      have hal : Below wr.heap.size wr (wr.alloc (.cells #[.int .i64 p'.op, .int .u64 p'.set.a, .int .u64 p'.set.b, .int .u64 p'.set.c, .int .u64 p'.set.d, .int .i64 p'.lo, .int .i64 p'.hi, .int .i64 p'.gr, .slice ad' n' cap'] 28)) := (Below.refl _ _).alloc (Nat.le_refl _) _
      have hY : CatB w M s lines _ (.int .i64 i) (.slice sa sp.length sc) l oa m oc (wr.alloc (.cells #[.int .i64 p'.op, .int .u64 p'.set.a, .int .u64 p'.set.b, .int .u64 p'.set.c, .int .u64 p'.set.d, .int .i64 p'.lo, .int .i64 p'.hi, .int .i64 p'.gr, .slice ad' n' cap'] 28)) ∧ Row (wr.alloc (.cells #[.int .i64 p'.op, .int .u64 p'.set.a, .int .u64 p'.set.b, .int .u64 p'.set.c, .int .u64 p'.set.d, .int .i64 p'.lo, .int .i64 p'.hi, .int .i64 p'.gr, .slice ad' n' cap'] 28)) wr.heap.size _ _ := ⟨HX.out.2.below hal, Row.new (w := wr) (cs := [.int .i64 p'.op, .int .u64 p'.set.a, .int .u64 p'.set.b, .int .u64 p'.set.c, .int .u64 p'.set.d, .int .i64 p'.lo, .int .i64 p'.hi, .int .i64 p'.gr, .slice ad' n' cap']) (T := 28) rfl⟩
      have HSTEP := hid (fun l' (h : stepP s.data.toList lines xs[k] l = some l') => catP_step s.data.toList lines hkx HX.out.1.1 h)
      have HNONE := hid (fun (h : stepP s.data.toList lines xs[k] l = none) => catP_none s.data.toList lines hkx HX.out.1.1 h)
      have HQL := hid HX.out.1.2
      have hm4 : m ≤ 4096 := by have := HX.out.1.2.1; have h2 := HX.out.2.2.2.2; omega
      have HML := hid HX.out.2.2.2.2
      have q4 := hY.1.2.1.cell 0
      obtain ⟨BB, hBB⟩ : ∃ B, B = wr.heap.size := ⟨_, rfl⟩
      have hzz : ((wr.alloc (.cells #[.int .i64 p'.op, .int .u64 p'.set.a, .int .u64 p'.set.b, .int .u64 p'.set.c, .int .u64 p'.set.d, .int .i64 p'.lo, .int .i64 p'.hi, .int .i64 p'.gr, .slice ad' n' cap'] 28))).heap.size = BB + 1 := by rw [hBB]; simp
      have HY := hid hY
      clear hY hal
      go_upto_region 35 with (with_reducible (refine wpList_load_agg rfl 28 _ rfl bb (o + k * 9) rfl _ _ HXC.out Tryd.underlying28 rfl (size_re9 _ _ _ _ _ _ _ _ _) ?_))
      clear q3
      rw [← hBB] at HY ⊢
      obtain ⟨Z, hZ⟩ : ∃ Z, Z = (wr.alloc (.cells #[.int .i64 p'.op, .int .u64 p'.set.a, .int .u64 p'.set.b, .int .u64 p'.set.c, .int .u64 p'.set.d, .int .i64 p'.lo, .int .i64 p'.hi, .int .i64 p'.gr, .slice ad' n' cap'] 28)) := ⟨_, rfl⟩
      rw [← hZ] at HY hzz q4 ⊢
      have HZS := hid hzz
      clear hzz hZ hBB HX
      go_wp2_with fail
      go_loopw [20, 202] (fun v20 v202 wr => ∃ (j : Nat) (ms : List (List Parse)) (na : Option Addr) (nn nc : Nat), v20 = .slice na nn nc ∧ v202 = .int .i64 j ∧ j ≤ m ∧ Hid ((l.take j).mapM (fun q : Parse => parses s.data.toList lines xs[k] q.1 q.2) = some ms ∧ (ms.flatten.length ≤ j * 4096 ∧ ∀ q, q ∈ ms.flatten → POk N s.size i q) ∧ nn = ms.flatten.length ∧ OwnP wr (BB + 1) (.slice na nn nc) ms.flatten ∧ Below (BB + 1) Z wr)) (fun _ v202 _ => m - (intOf v202).toNat)
      case atStart => exact ⟨0, [], none, 0, 0, rfl, rfl, Nat.zero_le _, by simp, ⟨by simp, fun q hq => by cases hq⟩, rfl, OwnP.nil _ _, Below.refl _ _⟩
      case round =>
        obtain ⟨j, ms, na, nn, nc, rfl, rfl, hj, HX⟩ := hrel
        have hbz : Below Z.heap.size Z wr := by rw [HZS.out]; exact HX.out.2.2.2.2
        have HB := hid (⟨HY.out.1.below hbz, HY.out.2.below hbz HY.out.2.lt⟩ : CatB w M s lines _ (.int .i64 i) (.slice sa sp.length sc) l oa m oc wr ∧ Row wr BB _ _)
        clear hbz
        by_cases hlt2 : j < m
        · have hltJ : (j : Int) < (m : Int) := by omega
          obtain ⟨b, cc, u1, u2, va2, vc2, hq, ev, hbl, -, -, p0, p1, hsq⟩ := HB.out.1.2.2.1.get (k := j) (by have := HML.out; omega)
          injection ev with e1 e2 e3
          subst e1; subst e3
          clear e2
          have hpk := HQL.out.2 (u1, u2) (List.mem_of_getElem? hq)
          have hal : Below wr.heap.size wr (wr.alloc (.cells #[.int .i64 u1, .slice va2 u2.length vc2] 48)) := (Below.refl _ _).alloc (Nat.le_refl _) _
          have hW : CatB w M s lines _ (.int .i64 i) (.slice sa sp.length sc) l _ m _ (wr.alloc (.cells #[.int .i64 u1, .slice va2 u2.length vc2] 48)) ∧ Row (wr.alloc (.cells #[.int .i64 u1, .slice va2 u2.length vc2] 48)) BB _ _ ∧ Row (wr.alloc (.cells #[.int .i64 u1, .slice va2 u2.length vc2] 48)) wr.heap.size _ _ ∧ OwnP (wr.alloc (.cells #[.int .i64 u1, .slice va2 u2.length vc2] 48)) (BB + 1) (.slice na nn nc) ms.flatten := ⟨HB.out.1.below hal, HB.out.2.below hal HB.out.2.lt, Row.new (w := wr) (cs := [.int .i64 u1, .slice va2 u2.length vc2]) (T := 48) rfl, HX.out.2.2.2.1.below hal⟩
          have r0 := hW.2.1.c9
          have r1 := hW.2.2.1.two9
          have HCK := hid (HCH.out (wr.alloc (.cells #[.int .i64 u1, .slice va2 u2.length vc2] 48)) k hkx _ HXI.out hW.1.1.2.2.2 va2 vc2 u2 u1 (hsq.below hal) hpk.2.2 hpk.2.1)
          have HLE := hid (HLEN.out k hkx u1 u2 hpk.2.1 hpk.2.2)
          have HPO := hid (HPOK.out k hkx u1 u2 hpk.2.1 hpk.2.2)
          have HST := hid (fun m' (h : parses s.data.toList lines xs[k] u1 u2 = some m') => mapM_step (f := (fun q : Parse => parses s.data.toList lines xs[k] q.1 q.2)) hq HX.out.1 h)
          have HNO := hid (fun (h : parses s.data.toList lines xs[k] u1 u2 = none) => HNONE.out (stepP_none s.data.toList lines hq HX.out.1 h))
          have HW := hid (⟨hW, hal⟩ : _ ∧ _)
          have HI1 := hid hpk.1
          obtain ⟨r, hr⟩ : ∃ r, r = parses s.data.toList lines xs[k] u1 u2 := ⟨_, rfl⟩
          rw [← hr] at HCK HLE HPO HST HNO
          clear hr hq hpk hW hal hsq
          go_wp2_with fail
          refine HCK.out.mono ?_
          rintro e z ⟨hb, hres⟩
          clear p0 p1 r0 r1
          cases r with
          | none =>
            subst hres
            refine And.intro rfl ?_
            show ParP w _ (.panicked exh) z
            rw [HPA.out, HNO.out rfl]
            exact ⟨HW.out.1.1.1.2.2.2.trans (hb.mono HW.out.1.1.1.2.2.2.size), rfl⟩
          | some l2 =>
            obtain ⟨a9, c9, rfl, hps⟩ := hres
            have hl4 := HLE.out l2 rfl
            have HOX := hid (HW.out.1.2.2.2.below hb)
            have HBZ : Hid (Below (BB + 1) Z z) := by
              have h1 := HX.out.2.2.2.2
              have h2 : Z.heap.size ≤ wr.heap.size := h1.size
              rw [HZS.out] at h2
              have h3 := HW.out.2.size
              exact (h1.trans (HW.out.2.mono h2)).trans (hb.mono (by omega))
            have HPS := hid hps
            have HLL : Hid (ms.flatten.length + l2.length ≤ 40000000) := by have := HX.out.2.1.1; show _ ≤ _; omega
            clear hps hb
            go_wp2_with (at_builtin; refine wpList_append_psB rfl _ _ rfl (BB + 1) _ ms.flatten l2 _ _ rfl HOX.out rfl HPS.out HLL.out ?c0 ?_)
            case c0 => have h1 := HBZ.out.size; rw [HZS.out] at h1; exact h1
            intro a' n9 c' w3 hn9 hown hg hnew
            have hbw3 := HBZ.out.grown hg (by have h1 := HBZ.out.size; rw [HZS.out] at h1; exact h1) (fun g hg' => (HOX.out.lt g hg').1)
            have HN : Hid ((l.take (j + 1)).mapM (fun q : Parse => parses s.data.toList lines xs[k] q.1 q.2) = some (ms ++ [l2]) ∧ ((ms ++ [l2]).flatten.length ≤ (j + 1) * 4096 ∧ ∀ q, q ∈ (ms ++ [l2]).flatten → POk N s.size i q) ∧ n9 = (ms ++ [l2]).flatten.length ∧ OwnP w3 (BB + 1) (.slice a' n9 c') (ms ++ [l2]).flatten ∧ Below (BB + 1) Z w3) := by
              have e : (ms ++ [l2]).flatten = ms.flatten ++ l2 := by simp
              rw [e]
              refine ⟨HST.out l2 rfl, ⟨by have := HX.out.2.1.1; rw [List.length_append]; omega, fun q hq => ?_⟩, by rw [hn9]; simp, hown, hbw3⟩
              rcases List.mem_append.1 hq with h | h
              · exact HX.out.2.1.2 q h
              · have := HPO.out l2 rfl q h
                exact ⟨Nat.le_trans HI1.out this.1, this.2⟩
            clear hn9 hown hg hnew hbw3
            go_wp2_with fail
            exact ⟨⟨j + 1, ms ++ [l2], a', n9, c', rfl, by rw [Int.natCast_add]; rfl, hlt2, HN.out⟩, by simp [intOf]; omega⟩
        · have hje : j = m := by omega
          have hltJ : ¬ (j : Int) < (m : Int) := by omega
          have hMAP : l.mapM (fun q : Parse => parses s.data.toList lines xs[k] q.1 q.2) = some ms := by have h := HX.out.1; rwa [List.take_of_length_le (by have := HML.out; omega)] at h
          have HSP2 : Hid (stepP s.data.toList lines xs[k] l = onceR ms.flatten) := by show _ = _; unfold stepP; rw [hMAP]; rfl
          have HON := hid (ponce_big wr _ _ ms.flatten HX.out.2.2.2.1.psq (by have := HX.out.2.1.1; omega) (fun q hq => (HX.out.2.1.2 q hq).fine hN hs) (HT.out.on HB.out.1.1.2.2.2))
          have HFL := hid HX.out.2.1.2
          obtain ⟨r, hr⟩ : ∃ r, r = onceR ms.flatten := ⟨_, rfl⟩
          have HRE := hid hr.symm
          rw [← hr] at HON HSP2
          clear hr hMAP HX
          go_wp2_with fail
          refine HON.out.mono ?_
          rintro e z ⟨hb, hres⟩
          cases r with
          | none =>
            subst hres
            refine And.intro rfl ?_
            show ParP w _ (.panicked exh) z
            rw [HPA.out, HNONE.out HSP2.out]
            exact ⟨HB.out.1.1.2.2.2.trans (hb.mono HB.out.1.1.2.2.2.size), rfl⟩
          | some l3 =>
            obtain ⟨a9, c9, rfl, hps⟩ := hres
            have hCZ := HB.out.1.below hb
            have q5 := hCZ.2.1.cell 0
            have f5 := hCZ.2.1.free 0
            have HN := hid (hCZ.put hps rfl HMW.out)
            have HQ2 : Hid (CatQ s lines N i sp xs (k + 1) l3) := ⟨HSTEP.out l3 HSP2.out, (onceR_le HRE.out).1, fun q hq => HFL.out q ((onceR_le HRE.out).2 q hq)⟩
            clear hb hps hCZ
            go_wp2_with fail
            exact ⟨⟨k + 1, l3, a9, l3.length, c9, by rw [Int.natCast_add]; rfl, hlt, HQ2.out, HN.out⟩, by simp [intOf]; omega⟩
    · have hke : k = n := by omega
      have hltI : ¬ (k : Int) < (n : Int) := by omega
      have hAL : catP s.data.toList lines xs [(i, sp)] = some l := by have h := HX.out.1.1; rwa [List.take_of_length_le (by have := HNN.out; omega)] at h
      have HPA2 : Hid (fin s.size l = parses s.data.toList lines (.mk p xs) i sp) := by show _ = _; rw [HPA.out, hAL]; rfl
      have hml : l.length ≤ 200000 := by have := HX.out.1.2.1; omega
      have hmk : ∀ q, q ∈ l → POk N s.size 0 q := fun q hq => by
        have h2 := HX.out.1.2.2 q hq
        exact ⟨Nat.zero_le _, h2.2.1, h2.2.2⟩
      have HE := hid (pend2_any w wr _ _ l N s.size _ HX.out.2.2.2.1 HX.out.2.1.2.2.2 hml hmk hN hs HT.out HPA2.out)
      clear HX hml hmk hke hAL
      go_wp2_with fail
      refine HE.out.mono ?_
      rintro e z2 ⟨hb2, h2⟩
      obtain ⟨r2, hr2⟩ : ∃ r2, r2 = parses s.data.toList lines (.mk p xs) i sp := ⟨_, rfl⟩
      rw [← hr2] at h2
      have HR2 := hid hr2
      clear hr2
      cases r2 with
      | none =>
        subst h2
        refine ⟨rfl, ?_⟩
        rw [← HR2.out]
        exact ⟨hb2, rfl⟩
      | some l2 =>
        obtain ⟨a2, c2, rfl, h2⟩ := h2
        have HR := hid (⟨hb2, h2⟩ : _ ∧ _)
        clear hb2 h2
        go_wp2_with fail
        go_ret
        rw [← HR2.out]
        exact ⟨HR.out.1, a2, c2, rfl, HR.out.2⟩
end Go.Proofs.YtkinnfejgpnddaaDoor

/- Situations as keys of a map. -/
namespace Go.Proofs.YtkinnfejgpnddaaDoor
open Go.RowKit

/-- A situation as a key: how often, and the parse's text. -/
def encS (x : Nat × List UInt8) : Value := .agg #[.int .i64 x.1, strV x.2]
def sitK (y : Sit) : Nat × List UInt8 := (y.1, keyB y.2)
theorem sitK_mem {y : Sit} {l : List Sit} : sitK y ∈ l.map sitK ↔ y ∈ l := by
  rw [List.mem_map]
  refine ⟨fun ⟨z, h1, h2⟩ => ?_, fun h => ⟨y, h, rfl⟩⟩
  have h3 := congrArg Prod.fst h2
  have h4 := keyB_inj (congrArg Prod.snd h2)
  have : z = y := Prod.ext h3 h4
  exact this ▸ h1
theorem sit_fields : (Tryd.prog.fieldsOf 116).toList.map (fun f => (f.name == "_", f.type, f.offset)) = [(false, 3, 0), (false, 9, 1)] := by kernel_rfl
theorem two_fields {fs : List Field} {a b : Bool × TypeId × Nat} (h : fs.map (fun f => (f.name == "_", f.type, f.offset)) = [a, b]) : ∃ f1 f2, fs = [f1, f2] ∧ (f1.name == "_", f1.type, f1.offset) = a ∧ (f2.name == "_", f2.type, f2.offset) = b := by
  match fs, h with
  | [f1, f2], h => exact ⟨f1, f2, rfl, by simpa using (List.cons.inj h).1, by simpa using (List.cons.inj (List.cons.inj h).2).1⟩
  | [], h => cases h
  | [_], h => simp at h
  | _ :: _ :: _ :: _, h => simp at h
theorem equal_sit (x y : Nat × List UInt8) (w : World) : (Op.equal 116 (encS x) (encS y)).run Tryd.prog w = .ok (x == y) w := by
  obtain ⟨m, hm⟩ : ∃ m, m + 1 + 1 = 10000 := ⟨9998, by omega⟩
  have h1 := run_equalIn_agg (P := Tryd.prog) w (m + 1) 116 #[.int .i64 x.1, strV x.2] #[.int .i64 y.1, strV y.2] (by kernel_rfl) (by kernel_rfl)
  obtain ⟨f1, f2, hf, ha, hb⟩ := two_fields sit_fields
  rw [hf] at h1
  simp only [Prod.mk.injEq] at ha hb
  obtain ⟨a1, a2, a3⟩ := ha
  obtain ⟨b1, b2, b3⟩ := hb
  rw [hm] at h1
  unfold Op.equal Op.maxDepth encS
  rw [h1]
  have hi : Tryd.prog.underlying 3 = some (.int .i64) := Tryd.underlying3
  have hs : Tryd.prog.underlying 9 = some .string := Tryd.underlying9
  have n1 : f1.name ≠ "_" := by simpa using a1
  have n2 : f2.name ≠ "_" := by simpa using b1
  have p1 : ∀ (z : Nat × List UInt8), (part 3 #[.int .i64 z.1, strV z.2] 0).run Tryd.prog w = .ok (.int .i64 z.1) w := fun z => run_part_plain w (by unfold Program.plainKey; rw [hi]) rfl
  have p2 : ∀ (z : Nat × List UInt8), (part 9 #[.int .i64 z.1, strV z.2] 1).run Tryd.prog w = .ok (strV z.2) w := fun z => run_part_plain w (by unfold Program.plainKey; rw [hs]) rfl
  have q1 := run_equalIn_int (P := Tryd.prog) w m 3 .i64 .i64 x.1 y.1 hi
  have q2 : (Op.equalIn (m + 1) 9 (strV x.2) (strV y.2)).run Tryd.prog w = .ok (x.2 == y.2) w := by
    have := run_equalIn_string (P := Tryd.prog) w m 9 ⟨x.2.toArray⟩ ⟨y.2.toArray⟩ hs
    rw [← beq_toListBytes, str_beq] at this
    exact this
  have e1 : ((x.1 : Int) == (y.1 : Int)) = (x.1 == y.1) := by
    by_cases h : x.1 = y.1
    · rw [h, beq_self_eq_true, beq_self_eq_true]
    · rw [(beq_eq_false_iff_ne.2 (by omega) : ((x.1 : Int) == (y.1 : Int)) = false), (beq_eq_false_iff_ne.2 h : (x.1 == y.1) = false)]
  rw [e1] at q1
  rw [show (x == y) = (x.1 == y.1 && x.2 == y.2) from rfl]
  generalize (x.1 == y.1) = c1 at q1 ⊢
  generalize (x.2 == y.2) = c2 at q2 ⊢
  cases c1 <;> cases c2 <;> simp [Op.eqFields, n1, n2, a2, a3, b2, b3, p1, p2, q1, q2]
theorem check_sit (b : Bool) (x : Nat × List UInt8) (w : World) : (Instr.checkKey b 10000 116 (encS x)).run Tryd.prog w = .ok () w := by
  obtain ⟨m, hm⟩ : ∃ m, m + 1 + 1 = 10000 := ⟨9998, by omega⟩
  obtain ⟨f1, f2, hf, ha, hb⟩ := two_fields sit_fields
  simp only [Prod.mk.injEq] at ha hb
  obtain ⟨a1, a2, a3⟩ := ha
  obtain ⟨b1, b2, b3⟩ := hb
  have hi : Tryd.prog.underlying 3 = some (.int .i64) := Tryd.underlying3
  have hs : Tryd.prog.underlying 9 = some .string := Tryd.underlying9
  have n1 : f1.name ≠ "_" := by simpa using a1
  have n2 : f2.name ≠ "_" := by simpa using b1
  have hu : Tryd.prog.underlying 116 = some (.struct (Tryd.prog.fieldsOf 116)) := by kernel_rfl
  have p1 : (part 3 #[.int .i64 x.1, strV x.2] 0).run Tryd.prog w = .ok (.int .i64 x.1) w := run_part_plain w (by unfold Program.plainKey; rw [hi]) rfl
  have p2 : (part 9 #[.int .i64 x.1, strV x.2] 1).run Tryd.prog w = .ok (strV x.2) w := run_part_plain w (by unfold Program.plainKey; rw [hs]) rfl
  have c1 := MapKept.run_checkKey (P := Tryd.prog) (w := w) (k := .int .i64 x.1) hi rfl b m
  have c2 := MapKept.run_checkKey (P := Tryd.prog) (w := w) (k := strV x.2) hs trivial b m
  rw [← hm]
  unfold Instr.checkKey encS
  simp only [Sem.run_bind, run_underlying hu, Result.andThen_ok]
  rw [← Array.forIn_toList, hf]
  simp only [List.forIn_cons, List.forIn_nil, Sem.run_bind, if_pos n1, if_pos n2, a2, a3, b2, b3, p1, p2, c1, c2, Result.andThen_ok, Sem.run_pure]
theorem KeyLaw.sit : KeyLaw Tryd.prog 116 encS := by
  refine ⟨check_sit, fun x es l w h => ?_⟩
  obtain ⟨r, h1, h2, h3⟩ := findAsk (P := Tryd.prog) (enc := encS) equal_sit x w es l 0 h
  exact ⟨r, (run_findKey_eq w (by kernel_rfl) _ _).trans h1, h2, h3⟩
end Go.Proofs.YtkinnfejgpnddaaDoor

/- The reference of the parses: a visit. -/
namespace Go.Proofs.YtkinnfejgpnddaaDoor
open Go.RowKit
attribute [local go_sem] gives givesUpon

section
variable (p : Pay) (gs : List Nat) (child : Nat → Spans → Option (List Parse))
def vstep (f c i : Nat) (st : List Sit × List Parse) (q : Parse) : Option (List Sit × List Parse) := if q.1 = i ∧ p.lo ≤ (c : Int) then some st else visit p gs child f (c + 1, q.1, q.2) st
def vfold (f c i : Nat) (sp : Spans) (seen : List Sit) (out : List Parse) : Option (List Sit × List Parse) :=
  if p.hi < 0 ∨ (c : Int) < p.hi then (child i (unset sp gs)).bind fun l => l.foldlM (vstep p gs child f c i) (seen ++ [(c, i, sp)], out) else some (seen ++ [(c, i, sp)], out)
def vend (c i : Nat) (sp : Spans) (st : List Sit × List Parse) : List Sit × List Parse := (st.1, if p.lo ≤ (c : Int) then st.2 ++ [(i, sp)] else st.2)
theorem visit_body (f c0 i : Nat) (sp : Spans) (seen : List Sit) (out : List Parse) (c : Nat) (hc : c = if p.hi < 0 ∧ p.lo < (c0 : Int) then p.lo.toNat else c0) : visit p gs child (f + 1) (c0, i, sp) (seen, out) =
    if (c, i, sp) ∈ seen then some (seen, out) else if most < seen.length + 1 then none else (vfold p gs child f c i sp seen out).bind fun st => some (vend p c i sp st) := by
  subst hc
  rw [visit]
  rfl
end
theorem foldlM_step {α σ : Type} {f : σ → α → Option σ} {l : List α} {k : Nat} {q : α} {s s1 : σ} (h : l[k]? = some q) (h1 : (l.take k).foldlM f s = some s1) : (l.take (k + 1)).foldlM f s = f s1 q := by
  rw [List.take_add_one, h, List.foldlM_append, h1]
  cases hq : f s1 q <;> simp [hq]
theorem foldlM_none {α σ : Type} {f : σ → α → Option σ} {l : List α} {k : Nat} {q : α} {s s1 : σ} (h : l[k]? = some q) (h1 : (l.take k).foldlM f s = some s1) (h2 : f s1 q = none) : l.foldlM f s = none := by
  have hk : k < l.length := (List.getElem?_eq_some_iff.1 h).1
  have e : l = l.take (k + 1) ++ l.drop (k + 1) := (List.take_append_drop _ _).symm
  rw [e, List.foldlM_append, foldlM_step h h1, h2]
  rfl

theorem Fr.push {X : Nat} {w x y w' : World} {va : Option Addr} {vn vc n c g : Nat} {ov : Value} (hb : Below w.heap.size w x) (hg : x.grownBy y (Value.slice va vn vc).ownBlock) (hat : (Value.slice va vn vc).ownBlock = some g ∨ g = x.heap.size) (hw : w' = y.setCell ⟨X, 11, none⟩ (.slice (some ⟨g, 0, none⟩) n c)) : Fr X w (.slice va vn vc) ov w' (.slice (some ⟨g, 0, none⟩) n c) ov := by
  subst hw
  refine ⟨?_, fun g' hg' => ?_, fun g' hg' => .inl hg'⟩
  · refine ((But.of_below hb).later (⟨hg.os, hg.tape, hg.output, hg.size, fun k hk hk2 => hg.block k hk (fun e => hk2 (by simp [mem_blk.2 e.symm]))⟩ : But (X :: (blk (Value.slice va vn vc) ++ blk ov)) x y) (fun i hi => .inl hi)).setCell (p := ⟨X, 11, none⟩) (.inl (by simp)) _
  · have : g = g' := by simpa [Value.ownBlock] using hg'
    subst this
    rcases hat with h | h
    · exact .inl h
    · exact .inr (by have := hb.size; omega)
theorem Fr.newOut {X : Nat} {x y w' : World} {sv : Value} {va : Option Addr} {vn vc n c : Nat} {a : Option Addr} (hg : x.grownBy y (Value.slice va vn vc).ownBlock) (hat : ∀ g, (Value.slice a n c).ownBlock = some g → (Value.slice va vn vc).ownBlock = some g ∨ x.heap.size ≤ g) (hw : w' = y.setCell ⟨X, 12, none⟩ (.slice a n c)) : Fr X x sv (.slice va vn vc) w' sv (.slice a n c) := by
  subst hw
  refine ⟨?_, fun g' hg' => .inl hg', fun g' hg' => hat g' hg'⟩
  exact (⟨hg.os, hg.tape, hg.output, hg.size, fun k hk hk2 => hg.block k hk (fun e => hk2 (by simp [mem_blk.2 e.symm]))⟩ : But (X :: (blk sv ++ blk (Value.slice va vn vc))) x y).setCell (p := ⟨X, 12, none⟩) (.inl (by simp)) _
section
variable {p : Pay} {gs : List Nat} {child : Nat → Spans → Option (List Parse)}
/-- A visit lists no more parses than it notes situations. -/
theorem vstep_len {f c i : Nat} (ih : ∀ (x : Sit) (st st' : List Sit × List Parse), visit p gs child f x st = some st' → st'.2.length + st.1.length ≤ st'.1.length + st.2.length) : ∀ (l : List Parse) (s0 st' : List Sit × List Parse), l.foldlM (vstep p gs child f c i) s0 = some st' → st'.2.length + s0.1.length ≤ st'.1.length + s0.2.length := by
  intro l
  induction l with
  | nil =>
    intro s0 st' h
    have := Option.some.inj h
    subst this
    omega
  | cons q l ihl =>
    intro s0 st' h
    rw [List.foldlM_cons] at h
    obtain ⟨s1, h1, h2⟩ := Option.bind_eq_some_iff.1 h
    have h3 := ihl s1 st' h2
    unfold vstep at h1
    split at h1
    · have := Option.some.inj h1
      subst this
      exact h3
    · have h4 := ih _ _ _ h1
      omega
theorem vfold_len {f c i : Nat} {sp : Spans} {seen : List Sit} {out : List Parse} {st' : List Sit × List Parse} (ih : ∀ (x : Sit) (st st' : List Sit × List Parse), visit p gs child f x st = some st' → st'.2.length + st.1.length ≤ st'.1.length + st.2.length) (h : vfold p gs child f c i sp seen out = some st') : st'.2.length + (seen.length + 1) ≤ st'.1.length + out.length := by
  unfold vfold at h
  split at h
  · obtain ⟨l, h1, h2⟩ := Option.bind_eq_some_iff.1 h
    have := vstep_len ih l _ _ h2
    simpa using this
  · have := Option.some.inj h
    subst this
    simp; omega
theorem visit_len : ∀ (f : Nat) (x : Sit) (st st' : List Sit × List Parse), visit p gs child f x st = some st' → st'.2.length + st.1.length ≤ st'.1.length + st.2.length
  | 0, x, st, st', h => by rw [visit] at h; cases h
  | f + 1, (c0, i, sp), (seen, out), st', h => by
    obtain ⟨c, hc⟩ : ∃ c : Nat, c = if p.hi < 0 ∧ p.lo < (c0 : Int) then p.lo.toNat else c0 := ⟨_, rfl⟩
    rw [visit_body p gs child f c0 i sp seen out c hc] at h
    by_cases h5 : (c, i, sp) ∈ seen
    · rw [if_pos h5] at h
      have := Option.some.inj h
      subst this
      dsimp only
      omega
    rw [if_neg h5] at h
    by_cases h6 : most < seen.length + 1
    · rw [if_pos h6] at h
      cases h
    · rw [if_neg h6] at h
      obtain ⟨s1, h1, h2⟩ := Option.bind_eq_some_iff.1 h
      have h3 := vfold_len (visit_len f) h1
      have := Option.some.inj h2
      subst this
      unfold vend
      dsimp only
      split <;> simp <;> omega
end
/-- What holds inside a visit, once its situation is noted. -/
def VisAt (N : Nat) (s : ByteArray) (lines : Bool) (E0 E1 E2 E3 E4 E5 E6 E7 E8 : Value) (base X : Nat) (w : World) (sv ov : Value) (m c i : Nat) (spv : Value) (sp : Spans) (st : List Sit × List Parse) (sv' ov' : Value) (y : World) : Prop :=
  LpAt s lines E0 E1 E2 E3 E4 E5 E6 E7 E8 base X sv' ov' st.1 st.2 y ∧ Row y w.heap.size [.int .i64 c, .int .i64 i, spv] 106 ∧ Fr X w sv ov y sv' ov' ∧ SpQ y spv sp ∧ sv'.ownBlock ≠ some w.heap.size ∧ (m + 1 ≤ 4096 → StOk N s.size st) ∧ m < st.1.length ∧ w.heap.size < y.heap.size
section
variable {N : Nat} {s : ByteArray} {lines : Bool} {E0 E1 E2 E3 E4 E5 E6 E7 E8 : Value} {base X : Nat} {w : World} {sv ov : Value} {m c i : Nat} {spv : Value} {sp : Spans} {st : List Sit × List Parse} {sv' ov' : Value} {y : World}
theorem VisAt.later {z : World} (h : VisAt N s lines E0 E1 E2 E3 E4 E5 E6 E7 E8 base X w sv ov m c i spv sp st sv' ov' y) (hb : Below y.heap.size y z) : VisAt N s lines E0 E1 E2 E3 E4 E5 E6 E7 E8 base X w sv ov m c i spv sp st sv' ov' z := by
  obtain ⟨h1, h2, h3, h4, h5, h6, h7, h8⟩ := h
  exact ⟨h1.later hb, h2.below hb h2.lt, h3.trans (Fr.of_below hb), h4.below hb, h5, h6, h7, Nat.lt_of_lt_of_le h8 hb.size⟩
theorem VisAt.step {z : World} {st2 : List Sit × List Parse} {sv2 ov2 : Value} (h : VisAt N s lines E0 E1 E2 E3 E4 E5 E6 E7 E8 base X w sv ov m c i spv sp st sv' ov' y) (hf : Fr X y sv' ov' z sv2 ov2) (hl : LpAt s lines E0 E1 E2 E3 E4 E5 E6 E7 E8 base X sv2 ov2 st2.1 st2.2 z) (ho : StOk N s.size st2) (hm : st.1.length ≤ st2.1.length) : VisAt N s lines E0 E1 E2 E3 E4 E5 E6 E7 E8 base X w sv ov m c i spv sp st2 sv2 ov2 z := by
  obtain ⟨h1, h2, h3, h4, h5, h6, h7, h8⟩ := h
  refine ⟨hl, h2.but hf.but (h1.sit h2 h5), h3.trans hf, h1.fr_span hf h4, fun e => ?_, fun _ => ho, Nat.lt_of_lt_of_le h7 hm, Nat.lt_of_lt_of_le h8 hf.but.size⟩
  rcases hf.s _ e with h9 | h9
  · exact h5 h9
  · omega
end
end Go.Proofs.YtkinnfejgpnddaaDoor

/- The program of layer 9: what a visit of a repetition may change. -/
namespace Go.Proofs.YtkinnfejgpnddaaDoor
open Go.RowKit
attribute [local go_sem] gives givesUpon

/-- The blocks of a repetition that stay as they are. -/
def RpS (s : ByteArray) (lines : Bool) (BXL : List Value) (M RB SB MB VB OB SM : Nat) (x : World) : Prop :=
  Row x M [.string s, .bool lines] 66 ∧ Row x RB BXL 28 ∧ Row x MB [.pointer (some ⟨M, 0, none⟩)] 64 ∧ Row x SB [.map (some SM)] 113 ∧
  Row x VB [.func (.func 76) #[] #[.pointer (some ⟨RB, 0, none⟩), .pointer (some ⟨SB, 0, none⟩), .pointer (some ⟨MB, 0, none⟩), .pointer (some ⟨VB, 0, none⟩), .pointer (some ⟨OB, 0, none⟩)]] 114
/-- The blocks of a repetition. -/
def RpAt (s : ByteArray) (lines : Bool) (BXL : List Value) (M RB SB MB VB OB SM : Nat) (ov : Value) (seen : List Sit) (out : List Parse) (x : World) : Prop :=
  RpS s lines BXL M RB SB MB VB OB SM x ∧ KSet encS x SM (seen.map sitK) ∧ OutV OB ov out x
structure FrP (SM OB : Nat) (w : World) (ov : Value) (w' : World) (ov' : Value) : Prop where
  but : But (SM :: OB :: blk ov) w w'
  o : ∀ g, ov'.ownBlock = some g → ov.ownBlock = some g ∨ w.heap.size ≤ g
theorem FrP.of_below {SM OB : Nat} {w w' : World} {ov : Value} (h : Below w.heap.size w w') : FrP SM OB w ov w' ov := ⟨But.of_below h, fun _ h => .inl h⟩
theorem FrP.trans {SM OB : Nat} {a b c : World} {o0 o1 o2 : Value} (h : FrP SM OB a o0 b o1) (k : FrP SM OB b o1 c o2) : FrP SM OB a o0 c o2 := by
  refine ⟨h.but.later k.but fun i hi => ?_, fun g hg => ?_⟩
  · rcases List.mem_cons.1 hi with rfl | hi
    · exact .inl (by simp)
    · rcases List.mem_cons.1 hi with rfl | hi
      · exact .inl (by simp)
      · exact (h.o i (mem_blk.1 hi)).imp (fun h1 => by simp [mem_blk.2 h1]) id
  · rcases k.o g hg with h1 | h1
    · exact h.o g h1
    · exact .inr (Nat.le_trans h.but.size h1)
section
variable {s : ByteArray} {lines : Bool} {BXL : List Value} {M RB SB MB VB OB SM : Nat} {ov : Value} {seen : List Sit} {out : List Parse}
theorem RpS.later {x y : World} (h : RpS s lines BXL M RB SB MB VB OB SM x) (hb : Below x.heap.size x y) : RpS s lines BXL M RB SB MB VB OB SM y :=
  ⟨h.1.below hb h.1.lt, h.2.1.below hb h.2.1.lt, h.2.2.1.below hb h.2.2.1.lt, h.2.2.2.1.below hb h.2.2.2.1.lt, h.2.2.2.2.below hb h.2.2.2.2.lt⟩
theorem RpAt.later {x y : World} (h : RpAt s lines BXL M RB SB MB VB OB SM ov seen out x) (hb : Below x.heap.size x y) : RpAt s lines BXL M RB SB MB VB OB SM ov seen out y :=
  ⟨h.1.later hb, h.2.1.below hb, h.2.2.below hb⟩
/-- A block of another type than the list's. -/
theorem RpAt.other {x : World} (h : RpAt s lines BXL M RB SB MB VB OB SM ov seen out x) {b : Nat} {cs : List Value} {T : TypeId} (hr : Row x b cs T) (h1 : T ≠ 33) (h2 : T ≠ 48) : b ∉ SM :: OB :: blk ov := by
  intro hm
  rcases List.mem_cons.1 hm with rfl | hm
  · exact h.2.1.row hr
  · rcases List.mem_cons.1 hm with rfl | hm
    · exact h1 (hr.typed h.2.2.1)
    · obtain ⟨cs', hr'⟩ := h.2.2.2.row (mem_blk.1 hm)
      exact h2 (hr.typed hr')
theorem RpAt.parse {x : World} (h : RpAt s lines BXL M RB SB MB VB OB SM ov seen out x) {b : Nat} {cs : List Value} (hr : Row x b cs 48) (hb : ov.ownBlock ≠ some b) : b ∉ SM :: OB :: blk ov := by
  intro hm
  rcases List.mem_cons.1 hm with rfl | hm
  · exact h.2.1.row hr
  · rcases List.mem_cons.1 hm with rfl | hm
    · exact absurd (hr.typed h.2.2.1) (by decide)
    · exact hb (mem_blk.1 hm)
theorem RpAt.span {x y : World} {ov' : Value} (h : RpAt s lines BXL M RB SB MB VB OB SM ov seen out x) (hf : FrP SM OB x ov y ov') {v : Value} {sp : Spans} (hs : SpQ x v sp) : SpQ y v sp := hs.but hf.but fun _ _ hr => h.other hr (by decide) (by decide)
theorem RpAt.ps {x y : World} {ov' : Value} (h : RpAt s lines BXL M RB SB MB VB OB SM ov seen out x) (hf : FrP SM OB x ov y ov') {v : Value} {l : List Parse} (hs : PsQ (fun b => ov.ownBlock ≠ some b) x v l) : PsQ (fun b => ov'.ownBlock ≠ some b) y v l :=
  hs.of (fun b cs hr => hr.but hf.but (h.other hr (by decide) (by decide))) fun b cs hp hr => ⟨hr.but hf.but (h.parse hr hp), fun e => by rcases hf.o b e with h1 | h1; exact hp h1; have := hr.lt; omega⟩
theorem RpS.but {S : List Nat} {x y : World} (h : RpS s lines BXL M RB SB MB VB OB SM x) (hb : But S x y) (hn : ∀ b cs T, Row x b cs T → T ≠ 33 → T ≠ 48 → b ∉ S) : RpS s lines BXL M RB SB MB VB OB SM y :=
  ⟨h.1.but hb (hn _ _ _ h.1 (by decide) (by decide)), h.2.1.but hb (hn _ _ _ h.2.1 (by decide) (by decide)), h.2.2.1.but hb (hn _ _ _ h.2.2.1 (by decide) (by decide)), h.2.2.2.1.but hb (hn _ _ _ h.2.2.2.1 (by decide) (by decide)), h.2.2.2.2.but hb (hn _ _ _ h.2.2.2.2 (by decide) (by decide))⟩
/-- All that is old and below the repetition's blocks stays. -/
theorem RpAt.low {x y : World} {ov' : Value} {n : Nat} (h : RpAt s lines BXL M RB SB MB VB OB SM ov seen out x) (hf : FrP SM OB x ov y ov') (h1 : n ≤ SM) (h2 : n ≤ OB) : Below n x y :=
  hf.but.below (Nat.le_trans h2 (Nat.le_of_lt h.2.2.1.lt)) fun k hk => by
    rcases List.mem_cons.1 hk with rfl | hk
    · exact h1
    · rcases List.mem_cons.1 hk with rfl | hk
      · exact h2
      · have := (h.2.2.2.lt k (mem_blk.1 hk)).1; omega
/-- A situation more. -/
theorem RpAt.push {x y : World} {st : Sit} (h : RpAt s lines BXL M RB SB MB VB OB SM ov seen out x) (hk : KSet encS y SM (seen.map sitK ++ [sitK st])) (hb : But [SM] x y) : RpAt s lines BXL M RB SB MB VB OB SM ov (seen ++ [st]) out y ∧ FrP SM OB x ov y ov := by
  have hn : ∀ b cs T, Row x b cs T → b ∉ [SM] := fun b cs T hr hm => by
    rw [List.mem_singleton.1 hm] at hr
    exact h.2.1.row hr
  refine ⟨⟨h.1.but hb fun b cs T hr _ _ => hn b cs T hr, by rw [List.map_append]; exact hk, h.2.2.1.but hb (hn _ _ _ h.2.2.1), h.2.2.2.keep (fun b cs hr => hr.but hb (hn _ _ _ hr)) fun g hg => hb.block g (h.2.2.2.lt g hg).2 fun hm => ?_⟩, ⟨⟨hb.os, hb.tape, hb.output, hb.size, fun i h1 h2 => hb.block i h1 fun hm => h2 (by simp [List.mem_singleton.1 hm])⟩, fun g hg => .inl hg⟩⟩
  obtain ⟨cs, hr⟩ := h.2.2.2.row hg
  exact hn _ _ _ hr hm
/-- A parse more. -/
theorem RpAt.newOut {x y : World} {ov' : Value} {out' : List Parse} (h : RpAt s lines BXL M RB SB MB VB OB SM ov seen out x) (hp : OutPost OB ov x ov' out' y) : RpAt s lines BXL M RB SB MB VB OB SM ov' seen out' y ∧ FrP SM OB x ov y ov' := by
  have hn : ∀ b cs T, Row x b cs T → T ≠ 33 → T ≠ 48 → b ∉ OB :: blk ov := fun b cs T hr h1 h2 hm => by
    have := h.other hr h1 h2
    exact this (List.mem_cons_of_mem _ hm)
  refine ⟨⟨h.1.but hp.2.1 hn, h.2.1.but hp.2.1 fun hm => ?_, hp.1⟩, ⟨⟨hp.2.1.os, hp.2.1.tape, hp.2.1.output, hp.2.1.size, fun i h1 h2 => hp.2.1.block i h1 fun hm => h2 (List.mem_cons_of_mem _ hm)⟩, hp.2.2⟩⟩
  rcases List.mem_cons.1 hm with e | hm
  · subst e; exact h.2.1.row h.2.2.1
  · obtain ⟨cs, hr⟩ := h.2.2.2.row (mem_blk.1 hm)
    exact h.2.1.row hr
end
/-- What a visit leaves. -/
def VisPostP (N : Nat) (s : ByteArray) (lines : Bool) (BXL : List Value) (M RB SB MB VB OB SM : Nat) (ov : Value) (m : Nat) (w : World) (r : Option (List Sit × List Parse)) (e : Ending) (w' : World) : Prop :=
  ∃ ov', FrP SM OB w ov w' ov' ∧ match r with
    | some st' => e = .returned (.tuple #[]) ∧ RpAt s lines BXL M RB SB MB VB OB SM ov' st'.1 st'.2 w' ∧ StOk N s.size st' ∧ m ≤ st'.1.length
    | none => e = .panicked exh
/-- What holds inside a visit, once its situation is noted. -/
def VisP (N : Nat) (s : ByteArray) (lines : Bool) (BXL : List Value) (M RB SB MB VB OB SM : Nat) (w : World) (ov : Value) (m i : Nat) (spv : Value) (sp : Spans) (st : List Sit × List Parse) (ov' : Value) (y : World) : Prop :=
  RpAt s lines BXL M RB SB MB VB OB SM ov' st.1 st.2 y ∧ Row y w.heap.size [.int .i64 i, spv] 48 ∧ FrP SM OB w ov y ov' ∧ SpQ y spv sp ∧ ov'.ownBlock ≠ some w.heap.size ∧ (m + 1 ≤ 4096 → StOk N s.size st) ∧ m < st.1.length ∧ w.heap.size < y.heap.size
section
variable {N : Nat} {s : ByteArray} {lines : Bool} {BXL : List Value} {M RB SB MB VB OB SM : Nat} {w : World} {ov : Value} {m i : Nat} {spv : Value} {sp : Spans} {st : List Sit × List Parse} {ov' : Value} {y : World}
theorem VisP.later {z : World} (h : VisP N s lines BXL M RB SB MB VB OB SM w ov m i spv sp st ov' y) (hb : Below y.heap.size y z) : VisP N s lines BXL M RB SB MB VB OB SM w ov m i spv sp st ov' z := by
  obtain ⟨h1, h2, h3, h4, h5, h6, h7, h8⟩ := h
  exact ⟨h1.later hb, h2.below hb h2.lt, h3.trans (FrP.of_below hb), h4.below hb, h5, h6, h7, Nat.lt_of_lt_of_le h8 hb.size⟩
theorem VisP.step {z : World} {st2 : List Sit × List Parse} {ov2 : Value} (h : VisP N s lines BXL M RB SB MB VB OB SM w ov m i spv sp st ov' y) (hf : FrP SM OB y ov' z ov2) (hl : RpAt s lines BXL M RB SB MB VB OB SM ov2 st2.1 st2.2 z) (ho : StOk N s.size st2) (hm : st.1.length ≤ st2.1.length) : VisP N s lines BXL M RB SB MB VB OB SM w ov m i spv sp st2 ov2 z := by
  obtain ⟨h1, h2, h3, h4, h5, h6, h7, h8⟩ := h
  refine ⟨hl, h2.but hf.but (h1.parse h2 h5), h3.trans hf, h1.span hf h4, fun e => ?_, fun _ => ho, Nat.lt_of_lt_of_le h7 hm, Nat.lt_of_lt_of_le h8 hf.but.size⟩
  rcases hf.o _ e with h9 | h9
  · exact h5 h9
  · omega
end
end Go.Proofs.YtkinnfejgpnddaaDoor
