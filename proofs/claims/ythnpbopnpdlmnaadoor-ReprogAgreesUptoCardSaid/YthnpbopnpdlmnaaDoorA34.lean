/- The program of layer 9: parses of an alternative. -/
import Derived.Test.YthnpbopnpdlmnaaDoorA33
import Derived.Test.YthnpbopnpdlmnaaDoorA32
namespace Go.Proofs.YthnpbopnpdlmnaaDoor
open Go.RowKit
attribute [local go_sem] gives givesUpon givesPan givesUponP

def AltK (s : ByteArray) (lines : Bool) (N i : Nat) (sp : Spans) (xs : List Re) (OB : Nat) (L : List Parse) (k : Nat) (ov : Value) (wr : World) : Prop :=
  altP s.data.toList lines (xs.take k) i sp = some L ∧ (L.length ≤ k * 4096 ∧ (∀ q, q ∈ L → POk N s.size i q)) ∧ OutV OB ov L wr
set_option maxRecDepth 100000 in
set_option maxHeartbeats 32000000 in
theorem ppar4 (wb : World) (N : Nat) (hN : N ≤ 9) (s : ByteArray) (hs : s.size ≤ 1000000) (lines : Bool) (p : Pay) (xs : List Re) (hop : p.op = 4) (HXS : ∀ x, x ∈ xs → PPar wb N s lines x) : PPar wb N s lines (.mk p xs) := by
  intro w cs M sa sc sp i hIn hok hsz hbw hM hsp hspo hi ht
  rw [Re.In] at hIn
  obtain ⟨ad, cap, rfl, hwf, -, -, -, hall⟩ := hIn
  simp only [Pay.cells]
  have hszx : Re.sizes xs ≤ 20 := by rw [Re.size_mk] at hsz; omega
  have hxl := sizes_len9 xs
  obtain ⟨n, hn⟩ : ∃ n, n = xs.length := ⟨_, rfl⟩
  have hn20 : n ≤ 20 := by omega
  have HNN := hid hn
  rw [← hn]
  have hP : PAt w M s lines [.int .i64 p.op, .int .u64 p.set.a, .int .u64 p.set.b, .int .u64 p.set.c, .int .u64 p.set.d, .int .i64 p.lo, .int .i64 p.hi, .int .i64 p.gr, .slice ad n cap] (.int .i64 i) (.slice sa sp.length sc) (((w.alloc (.cells #[.int .i64 p.op, .int .u64 p.set.a, .int .u64 p.set.b, .int .u64 p.set.c, .int .u64 p.set.d, .int .i64 p.lo, .int .i64 p.hi, .int .i64 p.gr, .slice ad n cap] 28)).alloc (.cells #[.int .i64 i, .slice sa sp.length sc] 71)).alloc (.cells #[.slice none 0 0] 39)) := ⟨((Row.new rfl).alloc _).alloc _, (Row.new (by simp)).alloc _, ((hM.alloc _).alloc _).alloc _, (((Below.refl _ _).alloc (Nat.le_refl _) _).alloc (by simp) _).alloc (by simp; omega) _⟩
  have hO : OutV (w.heap.size + 2) (.slice none 0 0) [] (((w.alloc (.cells #[.int .i64 p.op, .int .u64 p.set.a, .int .u64 p.set.b, .int .u64 p.set.c, .int .u64 p.set.d, .int .i64 p.lo, .int .i64 p.hi, .int .i64 p.gr, .slice ad n cap] 28)).alloc (.cells #[.int .i64 i, .slice sa sp.length sc] 71)).alloc (.cells #[.slice none 0 0] 39)) := ⟨Row.new (by simp), OwnP.nil _ _⟩
  have q0 := hP.1.c9
  have q1 := hP.2.2.1.two9
  have HP := hid (⟨hP, hO⟩ : _ ∧ _)
  have HT := hid ht
  have HO := hid hop
  have HMW := hid hM.lt
  have hsl : s.data.toList.length = s.size := by rw [Array.length_toList]; rfl
  rw [Re.ok] at hok
  have hoks := hok.2.2.2.2
  have HPA : Hid (parses s.data.toList lines (.mk p xs) i sp = (altP s.data.toList lines xs i sp).bind (fin s.size)) := by
    show _ = _; rw [parses]; simp only [hop, hsl]; rfl
  have HKID := hid (fun (x : World) (k : Nat) (hk : k < xs.length) (hx : Below w.heap.size w x) => hall.kid (hbw.trans (hx.mono hbw.size)) k hk)
  have HLEN := hid (fun (k : Nat) (hk : k < xs.length) l (h : parses s.data.toList lines xs[k] i sp = some l) => parses_len (Re.oks_get9 hoks k hk) (by rw [hsl]; exact hi) (by rw [hsl]; exact hspo) h)
  have hpok := fun (k : Nat) (hk : k < xs.length) l (h : parses s.data.toList lines xs[k] i sp = some l) => parses_ok s.data.toList lines N xs[k] i sp l (Re.oks_get9 hoks k hk) (by rw [hsl]; exact hi) (by rw [hsl]; exact hspo) h
  rw [hsl] at hpok
  have HPOK := hid hpok
  have HCH := hid (fun (x : World) (k : Nat) (hk : k < xs.length) (cs : List Value) (hin : Re.In wb xs[k] cs) (hx : Below w.heap.size w x) => HXS xs[k] (List.getElem_mem hk) x cs M sa sc sp i hin (Re.oks_get9 hoks k hk) (Nat.le_trans (size_kid9 xs k hk) hszx) (hbw.trans (hx.mono hbw.size)) (hM.below hx hM.lt) (hsp.of (fun _ _ hr => hr.below hx hr.lt)) hspo hi (ht.on hx))
  clear hP hO hall hok hsz hszx hbw hM hsp hspo ht hop hsl hxl hpok HXS hn hoks
  have e1 : (p.op == 1) = false := by rw [HO.out]; decide
  have e2 : (p.op == 2) = false := by rw [HO.out]; decide
  have e7 : (p.op == 7) = false := by rw [HO.out]; decide
  have e8 : (p.op == 8) = false := by rw [HO.out]; decide
  have e9 : (p.op == 9) = false := by rw [HO.out]; decide
  have e6 : (p.op == 6) = false := by rw [HO.out]; decide
  have e4 : (p.op == 4) = true := by rw [HO.out]; decide
  go_enter Tryd.func37, Tryd.ntmps37
  go_wp2_with fail
  clear q0 q1
  go_loopw [177] (fun v177 wr => ∃ (k : Nat) (L : List Parse) (ov : Value), v177 = .int .i64 k ∧ k ≤ n ∧ Hid (AltK s lines N i sp xs (w.heap.size + 2) L k ov wr ∧ PAt w M s lines [.int .i64 p.op, .int .u64 p.set.a, .int .u64 p.set.b, .int .u64 p.set.c, .int .u64 p.set.d, .int .i64 p.lo, .int .i64 p.hi, .int .i64 p.gr, .slice ad n cap] (.int .i64 i) (.slice sa sp.length sc) wr)) (fun v177 _ => n - (intOf v177).toNat)
  case atStart => exact ⟨0, [], _, rfl, Nat.zero_le _, ⟨by simp [altP], ⟨by simp, fun _ h => by cases h⟩, HP.out.2⟩, HP.out.1⟩
  case round =>
    obtain ⟨k, L, ov, rfl, hk, HX⟩ := hrel
    by_cases hlt : k < n
    · have hltI : (k : Int) < (n : Int) := by omega
      have hkx : k < xs.length := by have := HNN.out; omega
      obtain ⟨bb, o, p', ad', n', cap', e3, HXC, HXI, hbb⟩ := HKID.out wr k hkx HX.out.2.2.2.2
      subst e3
      have hal : Below wr.heap.size wr (wr.alloc (.cells #[.int .i64 p'.op, .int .u64 p'.set.a, .int .u64 p'.set.b, .int .u64 p'.set.c, .int .u64 p'.set.d, .int .i64 p'.lo, .int .i64 p'.hi, .int .i64 p'.gr, .slice ad' n' cap'] 28)) := (Below.refl _ _).alloc (Nat.le_refl _) _
      have HY := hid (⟨HX.out.1.2.2.below hal, HX.out.2.later hal, Row.new (w := wr) (cs := [.int .i64 p'.op, .int .u64 p'.set.a, .int .u64 p'.set.b, .int .u64 p'.set.c, .int .u64 p'.set.d, .int .i64 p'.lo, .int .i64 p'.hi, .int .i64 p'.gr, .slice ad' n' cap']) (T := 28) rfl⟩ : OutV (w.heap.size + 2) ov L (wr.alloc (.cells #[.int .i64 p'.op, .int .u64 p'.set.a, .int .u64 p'.set.b, .int .u64 p'.set.c, .int .u64 p'.set.d, .int .i64 p'.lo, .int .i64 p'.hi, .int .i64 p'.gr, .slice ad' n' cap'] 28)) ∧ PAt w M s lines _ (.int .i64 i) (.slice sa sp.length sc) (wr.alloc (.cells #[.int .i64 p'.op, .int .u64 p'.set.a, .int .u64 p'.set.b, .int .u64 p'.set.c, .int .u64 p'.set.d, .int .i64 p'.lo, .int .i64 p'.hi, .int .i64 p'.gr, .slice ad' n' cap'] 28)) ∧ Row (wr.alloc (.cells #[.int .i64 p'.op, .int .u64 p'.set.a, .int .u64 p'.set.b, .int .u64 p'.set.c, .int .u64 p'.set.d, .int .i64 p'.lo, .int .i64 p'.hi, .int .i64 p'.gr, .slice ad' n' cap'] 28)) wr.heap.size _ _)
      have HC := hid (fun (x : World) (hx : Grow ((wr.alloc (.cells #[.int .i64 p'.op, .int .u64 p'.set.a, .int .u64 p'.set.b, .int .u64 p'.set.c, .int .u64 p'.set.d, .int .i64 p'.lo, .int .i64 p'.hi, .int .i64 p'.gr, .slice ad' n' cap'] 28))).drew x) => (⟨(HY.out.2.2.grow hx).c9, (HY.out.1.below (grow_below hx)).1.cell 0⟩ : _ ∧ _))
      have HCK := hid (fun (x : World) (hx : Below wr.heap.size wr x) => HCH.out x k hkx _ HXI.out (HX.out.2.2.2.2.trans (hx.mono HX.out.2.2.2.2.size)))
      have HSTEP := hid (fun l (h : parses s.data.toList lines xs[k] i sp = some l) => altP_step s.data.toList lines hkx HX.out.1.1 h)
      have HNONE := hid (fun (h : parses s.data.toList lines xs[k] i sp = none) => altP_none s.data.toList lines hkx h)
      have HPO := hid (HPOK.out k hkx)
      have HLE := hid (HLEN.out k hkx)
      have HWR := hid hal
      obtain ⟨r, hr⟩ : ∃ r, r = parses s.data.toList lines xs[k] i sp := ⟨_, rfl⟩
      rw [← hr] at HCK HSTEP HNONE HPO HLE
      clear hr hal
      go_upto_region 28 with (with_reducible (refine wpList_load_agg rfl 28 _ rfl bb (o + k * 9) rfl _ _ HXC.out Tryd.underlying28 rfl (size_re9 _ _ _ _ _ _ _ _ _) ?_))
      cases r with
      | none =>
        refine wp_region_pan 5 (Grow) (by kernel_rfl) (by kernel_rfl) (Grow.refl) (fun _ _ _ => Grow.trans) ?_
        simp only [fill, dstOf, Act.put, List.take_succ_cons, List.take_zero, List.getElem?_toArray, List.getElem?_cons_zero, List.getElem?_cons_succ, Option.bind_some, List.setIfInBounds_toArray, List.set_cons_zero, List.set_cons_succ]
        refine PlanP.det 1 rfl (Grow.refl) ?_
        apply Exists.intro
        refine ⟨fun vs x hR hF K hK => ?_, ?_⟩
        · have hc := HC.out x hR; clear hF
          go_simp
          exact hK _ _ (Grow.refl _) rfl
        refine PlanP.det 2 rfl (Grow.refl) ?_
        apply Exists.intro
        refine ⟨fun vs x hR hF K hK => ?_, ?_⟩
        · clear hF
          go_simp
          exact hK _ _ (Grow.refl _) rfl
        refine PlanP.det 3 rfl (Grow.refl) ?_
        apply Exists.intro
        refine ⟨fun vs x hR hF K hK => ?_, ?_⟩
        · have hc := HC.out x hR; clear hF
          go_simp
          exact hK _ _ (Grow.refl _) rfl
        refine PlanP.det 4 rfl (Grow.refl) ?_
        apply Exists.intro
        refine ⟨fun vs x hR hF K hK => ?_, ?_⟩
        · clear hF
          go_simp
          exact hK _ _ (Grow.refl _) rfl
        refine PlanP.det 5 rfl (Grow.refl) ?_
        apply Exists.intro
        refine ⟨fun vs x hR hF K hK => ?_, ?_⟩
        · clear hF
          go_simp
          exact hK _ _ (Grow.refl _) rfl
        refine PlanP.nil (fun vs x hR hF => ?_)
        have f1 := hF 3 _ _ rfl rfl; have f2 := hF 2 _ _ rfl rfl; have f3 := hF 1 _ _ rfl rfl; have f4 := hF 0 _ _ rfl rfl
        clear hF
        intro oo hoo KQ hK
        obtain rfl := Option.some.inj hoo
        clear hoo
        simp only [f1, f2, f3, f4]
        clear f1 f2 f3 f4
        go_simp
        refine (HCK.out x (HWR.out.trans ((grow_below hR).mono HWR.out.size))).mono ?_
        rintro e z ⟨hb2, rfl⟩
        refine ⟨_, rfl, hK _ _ fun A hA => ?_⟩
        clear hK
        refine And.intro hA ?_
        show ParP w _ (.panicked exh) z
        rw [HPA.out, HNONE.out rfl]
        exact ⟨HX.out.2.2.2.2.trans ((HWR.out.trans ((grow_below hR).mono HWR.out.size) |>.trans (hb2.mono (HWR.out.trans ((grow_below hR).mono HWR.out.size)).size)).mono HX.out.2.2.2.2.size), rfl⟩
      | some l =>
        refine wp_region_inv 6 (Grow) (by kernel_rfl) (by kernel_rfl) (Grow.refl) (fun _ _ _ => Grow.trans) ?_
        simp only [fill, dstOf, Act.put, List.take_succ_cons, List.take_zero, List.getElem?_toArray, List.getElem?_cons_zero, List.getElem?_cons_succ, Option.bind_some, List.setIfInBounds_toArray, List.set_cons_zero, List.set_cons_succ]
        refine Plan.det 1 rfl (Grow.refl) ?_
        apply Exists.intro
        refine ⟨fun vs x hR hF K hK => ?_, ?_⟩
        · have hc := HC.out x hR; clear hF
          go_simp
          exact hK _ _ (Grow.refl _) rfl
        refine Plan.det 2 rfl (Grow.refl) ?_
        apply Exists.intro
        refine ⟨fun vs x hR hF K hK => ?_, ?_⟩
        · clear hF
          go_simp
          exact hK _ _ (Grow.refl _) rfl
        refine Plan.det 3 rfl (Grow.refl) ?_
        apply Exists.intro
        refine ⟨fun vs x hR hF K hK => ?_, ?_⟩
        · have hc := HC.out x hR; clear hF
          go_simp
          exact hK _ _ (Grow.refl _) rfl
        refine Plan.det 4 rfl (Grow.refl) ?_
        apply Exists.intro
        refine ⟨fun vs x hR hF K hK => ?_, ?_⟩
        · clear hF
          go_simp
          exact hK _ _ (Grow.refl _) rfl
        refine Plan.det 5 rfl (Grow.refl) ?_
        apply Exists.intro
        refine ⟨fun vs x hR hF K hK => ?_, ?_⟩
        · clear hF
          go_simp
          exact hK _ _ (Grow.refl _) rfl
        refine Plan.rel 6 rfl (Grow.refl) (fun v y => ∃ (a2 : Option Addr) (c2 : Nat), v = .slice a2 l.length c2 ∧ PsQ (wr.heap.size ≤ ·) y (.slice a2 l.length c2) l) (fun v y1 y2 hR ⟨a2, c2, h1, h2⟩ => ⟨a2, c2, h1, h2.below hR⟩) (fun vs x hR hF K hK => ?_) ?_
        · have f1 := hF 3 _ _ rfl rfl; have f2 := hF 2 _ _ rfl rfl; have f3 := hF 1 _ _ rfl rfl; have f4 := hF 0 _ _ rfl rfl
          go_simp
          refine (HCK.out x (HWR.out.trans ((grow_below hR).mono HWR.out.size))).mono ?_
          rintro e x1 ⟨hbe, a2, c2, rfl, h1⟩
          exact ⟨_, rfl, hK _ _ hbe ⟨a2, c2, rfl, h1.mono (fun b _ hb => Nat.le_trans (HWR.out.trans ((grow_below hR).mono HWR.out.size)).size hb)⟩⟩
        refine Plan.nil (fun vs x hR hF => ?_)
        have f0 := hF 5 _ _ rfl; have f1 := hF 4 _ _ rfl; have f2 := hF 3 _ _ rfl; have f3 := hF 2 _ _ rfl; have f4 := hF 1 _ _ rfl; have f5 := hF 0 _ _ rfl
        clear hF
        simp only [f0, f1, f2, f3, f4]
        clear f0 f1 f2 f3 f4
        simp only [List.drop_succ_cons, List.drop_zero]
        obtain ⟨a5, c5, e5, h5⟩ := f5
        have HXB := hid (grow_below hR)
        have HOX := hid (HY.out.1.below HXB.out)
        have HPX := hid (HY.out.2.1.later HXB.out)
        have hl4 := HLE.out l rfl
        have HPS := hid h5
        have HLL : Hid (L.length + l.length ≤ 1000000) := by have := HX.out.1.2.1.1; show _ ≤ _; omega
        simp only [e5]
        clear h5 HC hR HLE HCK
        at_builtin
        refine wpList_append_ps rfl _ _ rfl (w.heap.size + 3) _ L l _ _ rfl HOX.out.2 rfl HPS.out HLL.out (by have := HPX.out.2.2.2.size; have h9 := HOX.out.1.lt; omega) ?_
        intro a' n9 c' w3 hn9 hown hg hnew
        have hX3 : Row w3 (w.heap.size + 2) [ov] 39 := by
          obtain ⟨_, Lo, o1, o2, o3⟩ := HOX.out.2
          exact HOX.out.1.grownOwn o3 (by decide) hg
        have q3 := hX3.cell 0
        have f3 := hX3.free 0
        have hp := HOX.out.put hown hg hnew rfl
        have HX3 := hid (⟨hp.1, HPX.out.low (hp.low HOX.out) (Nat.le_refl _) HMW.out⟩ : OutV _ _ _ _ ∧ PAt w M s lines _ (.int .i64 i) (.slice sa sp.length sc) _)
        have HLA := hid (HSTEP.out l rfl)
        have HLB : Hid ((L ++ l).length ≤ (k + 1) * 4096 ∧ ∀ q, q ∈ L ++ l → POk N s.size i q) := ⟨by have := HX.out.1.2.1.1; rw [List.length_append]; omega, fun q hq => by
          rcases List.mem_append.1 hq with h | h
          · exact HX.out.1.2.1.2 q h
          · exact HPO.out l rfl q h⟩
        clear hn9 hown hg hnew hX3 hp
        go_wp2_with fail
        exact ⟨⟨k + 1, L ++ l, _, by rw [Int.natCast_add]; rfl, hlt, hid ⟨⟨HLA.out, HLB.out, HX3.out.1⟩, HX3.out.2⟩⟩, by simp [intOf]; omega⟩
    · have hke : k = n := by omega
      have hltI : ¬ (k : Int) < (n : Int) := by omega
      have hAL : altP s.data.toList lines xs i sp = some L := by have h := HX.out.1.1; rwa [List.take_of_length_le (by have := HNN.out; omega)] at h
      have HPA2 : Hid (fin s.size L = parses s.data.toList lines (.mk p xs) i sp) := by show _ = _; rw [HPA.out, hAL]; rfl
      have hml : L.length ≤ 200000 := by have := HX.out.1.2.1.1; omega
      have hmk : ∀ q, q ∈ L → POk N s.size 0 q := fun q hq => by
        have h2 := HX.out.1.2.1.2 q hq
        exact ⟨Nat.zero_le _, h2.2.1, h2.2.2⟩
      have q3 := HX.out.1.2.2.1.cell 0
      have HE := hid (pend_any w wr _ ov _ N s.size _ HX.out.1.2.2 HX.out.2.2.2.2 hml hmk hN hs HT.out HPA2.out)
      clear HX hml hmk hke hAL
      go_wp2_with fail
      refine HE.out.mono ?_
      rintro e z2 ⟨hb2, h2⟩
      obtain ⟨r2, hr2⟩ : ∃ r2, r2 = parses s.data.toList lines (.mk p xs) i sp := ⟨_, rfl⟩
      rw [← hr2] at h2
      have HR2 := hid hr2
      clear hr2
      cases r2 with
      | none =>
        subst h2
        refine ⟨rfl, ?_⟩
        rw [← HR2.out]
        exact ⟨hb2, rfl⟩
      | some l2 =>
        obtain ⟨a2, c2, rfl, h2⟩ := h2
        have HR := hid (⟨hb2, h2⟩ : _ ∧ _)
        clear hb2 h2
        go_wp2_with fail
        go_ret
        rw [← HR2.out]
        exact ⟨HR.out.1, a2, c2, rfl, HR.out.2⟩
end Go.Proofs.YthnpbopnpdlmnaaDoor
