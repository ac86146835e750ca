/- The program of layer 9: parses of one tree after the other. -/
import Derived.Test.YthnpbopnpdlmnaaDoorA34
import Derived.Test.YthnpbopnpdlmnaaDoorA32
import Derived.Test.YthnpbopnpdlmnaaDoorA25
import Derived.Test.YthnpbopnpdlmnaaDoorA24
import Derived.Test.YthnpbopnpdlmnaaDoorA18
import Derived.Laws.StructEq
import Derived.WideKeyRuns
import Derived.Deep.Cut
import Derived.Deep.RegionLaw
import Derived.Deep.RegionWith
namespace Go.Proofs.YthnpbopnpdlmnaaDoor
open Go.RowKit
attribute [local go_sem] gives givesUpon givesPan givesUponP

theorem pend2_any (w z : World) (p : Nat → Prop) (ov : Value) (l : List Parse) (N K : Nat) (r : Option (List Parse)) (ho : PsQ p z ov l) (hb : Below w.heap.size w z) (hl : l.length ≤ 200000) (hok : ∀ q, q ∈ l → POk N K 0 q) (hN : N ≤ 9) (hK : K ≤ 1000000) (ht : Tabs9 w) (hr : fin K l = r) :
    Calls Tryd.prog 52 #[ov] z (ParP w r) :=
  (psorted_any z _ ov l K ho hl (fun q hq => (hok q hq).fine hN hK) (fun q hq => (hok q hq).2.1) (ht.on hb)).mono fun _ _ h => h.on hb hr
def CatB (w : World) (M : Nat) (s : ByteArray) (lines : Bool) (BXL : List Value) (iv sv : Value) (l : List Parse) (a : Option Addr) (m c : Nat) (x : World) : Prop :=
  PAt w M s lines BXL iv sv x ∧ Row x (w.heap.size + 2) [.slice a m c] 39 ∧ PsQ (fun _ => True) x (.slice a m c) l ∧ m = l.length
theorem CatB.below {w : World} {M : Nat} {s : ByteArray} {lines : Bool} {BXL : List Value} {iv sv : Value} {l : List Parse} {a : Option Addr} {m c : Nat} {x y : World} (h : CatB w M s lines BXL iv sv l a m c x) (hb : Below x.heap.size x y) : CatB w M s lines BXL iv sv l a m c y :=
  ⟨h.1.later hb, h.2.1.below hb h.2.1.lt, h.2.2.1.below hb, h.2.2.2⟩
theorem CatB.put {w : World} {M : Nat} {s : ByteArray} {lines : Bool} {BXL : List Value} {iv sv : Value} {l l' : List Parse} {a a' : Option Addr} {m c m' c' : Nat} {x : World} {p : Nat → Prop} (h : CatB w M s lines BXL iv sv l a m c x) (hps : PsQ p x (.slice a' m' c') l') (hm : m' = l'.length) (hM : M < w.heap.size) : CatB w M s lines BXL iv sv l' a' m' c' (x.setCell ⟨w.heap.size + 2, 0, none⟩ (.slice a' m' c')) := by
  have hbt : But [w.heap.size + 2] x (x.setCell ⟨w.heap.size + 2, 0, none⟩ (.slice a' m' c')) := (But.of_below (Below.refl _ _) : But [w.heap.size + 2] x x).setCell (p := ⟨w.heap.size + 2, 0, none⟩) (.inl (by simp)) _
  have hlt := h.2.1.lt
  refine ⟨h.1.low (n := w.heap.size + 2) (hbt.below (by omega) fun k hk => by rw [List.mem_singleton.1 hk]; exact Nat.le_refl _) (Nat.le_refl _) hM, h.2.1.set 0 _, hps.of (fun b cs hr => hr.other (fun e => by subst e; exact absurd (hr.typed h.2.1) (by decide)) _ _) fun b cs _ hr => ⟨hr.other (fun e => by subst e; exact absurd (hr.typed h.2.1) (by decide)) _ _, trivial⟩, hm⟩
theorem onceR_le {l r : List Parse} (h : onceR l = some r) : r.length ≤ 4096 ∧ ∀ q, q ∈ r → q ∈ l := by
  unfold onceR at h
  split at h
  · cases h
  · rename_i h1
    have := Option.some.inj h
    subst this
    exact ⟨Nat.le_of_not_lt h1, fun q hq => nub_mem.1 hq⟩
def CatQ (s : ByteArray) (lines : Bool) (N i : Nat) (sp : Spans) (xs : List Re) (k : Nat) (l : List Parse) : Prop :=
  catP s.data.toList lines (xs.take k) [(i, sp)] = some l ∧ l.length ≤ 4096 ∧ ∀ q, q ∈ l → POk N s.size i q
set_option maxRecDepth 100000 in
set_option maxHeartbeats 32000000 in
theorem ppar3 (wb : World) (N : Nat) (hN : N ≤ 9) (s : ByteArray) (hs : s.size ≤ 1000000) (lines : Bool) (p : Pay) (xs : List Re) (hop : p.op = 3) (HXS : ∀ x, x ∈ xs → PPar wb N s lines x) : PPar wb N s lines (.mk p xs) := by
  intro w cs M sa sc sp i hIn hok hsz hbw hM hsp hspo hi ht
  rw [Re.In] at hIn
  obtain ⟨ad, cap, rfl, hwf, -, -, -, hall⟩ := hIn
  simp only [Pay.cells]
  have hszx : Re.sizes xs ≤ 20 := by rw [Re.size_mk] at hsz; omega
  have hxl := sizes_len9 xs
  obtain ⟨n, hn⟩ : ∃ n, n = xs.length := ⟨_, rfl⟩
  have hn20 : n ≤ 20 := by omega
  have HNN := hid hn
  rw [← hn]
  have hP : PAt w M s lines [.int .i64 p.op, .int .u64 p.set.a, .int .u64 p.set.b, .int .u64 p.set.c, .int .u64 p.set.d, .int .i64 p.lo, .int .i64 p.hi, .int .i64 p.gr, .slice ad n cap] (.int .i64 i) (.slice sa sp.length sc) (((w.alloc (.cells #[.int .i64 p.op, .int .u64 p.set.a, .int .u64 p.set.b, .int .u64 p.set.c, .int .u64 p.set.d, .int .i64 p.lo, .int .i64 p.hi, .int .i64 p.gr, .slice ad n cap] 28)).alloc (.cells #[.int .i64 i, .slice sa sp.length sc] 71)).alloc (.cells #[.slice none 0 0] 39)) := ⟨((Row.new rfl).alloc _).alloc _, (Row.new (by simp)).alloc _, ((hM.alloc _).alloc _).alloc _, (((Below.refl _ _).alloc (Nat.le_refl _) _).alloc (by simp) _).alloc (by simp; omega) _⟩
  have hO : OutV (w.heap.size + 2) (.slice none 0 0) [] (((w.alloc (.cells #[.int .i64 p.op, .int .u64 p.set.a, .int .u64 p.set.b, .int .u64 p.set.c, .int .u64 p.set.d, .int .i64 p.lo, .int .i64 p.hi, .int .i64 p.gr, .slice ad n cap] 28)).alloc (.cells #[.int .i64 i, .slice sa sp.length sc] 71)).alloc (.cells #[.slice none 0 0] 39)) := ⟨Row.new (by simp), OwnP.nil _ _⟩
  have q0 := hP.1.c9
  have q1 := hP.2.2.1.two9
  have HP := hid (⟨hP, hO⟩ : _ ∧ _)
  have HSP := hid (⟨hsp, hspo⟩ : _ ∧ _)
  have q2 := hP.2.1.two9
  have q3 := hO.1.cell 0
  have f3 := hO.1.free 0
  have HT := hid ht
  have HO := hid hop
  have HMW := hid hM.lt
  have HM := hid hM
  have hsl : s.data.toList.length = s.size := by rw [Array.length_toList]; rfl
  rw [Re.ok] at hok
  have hoks := hok.2.2.2.2
  have HPA : Hid (parses s.data.toList lines (.mk p xs) i sp = (catP s.data.toList lines xs [(i, sp)]).bind (fin s.size)) := by
    show _ = _; rw [parses]; simp only [hop, hsl]; rfl
  have HKID := hid (fun (x : World) (k : Nat) (hk : k < xs.length) (hx : Below w.heap.size w x) => hall.kid (hbw.trans (hx.mono hbw.size)) k hk)
  have HLEN := hid (fun (k : Nat) (hk : k < xs.length) (i : Nat) (sp : Spans) (hi : i ≤ s.size) (hspo : SpOk N s.size sp) l (h : parses s.data.toList lines xs[k] i sp = some l) => parses_len (Re.oks_get9 hoks k hk) (by rw [hsl]; exact hi) (by rw [hsl]; exact hspo) h)
  have hpok := fun (k : Nat) (hk : k < xs.length) (i : Nat) (sp : Spans) (hi : i ≤ s.size) (hspo : SpOk N s.size sp) l (h : parses s.data.toList lines xs[k] i sp = some l) => (show ∀ q, q ∈ l → POk N s.size i q from by have h9 := parses_ok s.data.toList lines N xs[k] i sp l (Re.oks_get9 hoks k hk) (by rw [hsl]; exact hi) (by rw [hsl]; exact hspo) h; rwa [hsl] at h9)
  have HPOK := hid hpok
  have HCH := hid (fun (x : World) (k : Nat) (hk : k < xs.length) (cs : List Value) (hin : Re.In wb xs[k] cs) (hx : Below w.heap.size w x) (sa : Option Addr) (sc : Nat) (sp : Spans) (i : Nat) (hsp : SpQ x (.slice sa sp.length sc) sp) (hspo : SpOk N s.size sp) (hi : i ≤ s.size) => HXS xs[k] (List.getElem_mem hk) x cs M sa sc sp i hin (Re.oks_get9 hoks k hk) (Nat.le_trans (size_kid9 xs k hk) hszx) (hbw.trans (hx.mono hbw.size)) (hM.below hx hM.lt) hsp hspo hi (ht.on hx))
  clear hP hO hall hok hsz hszx hbw hM hsp hspo ht hop hsl hxl hpok HXS hn hoks
  have e1 : (p.op == 1) = false := by rw [HO.out]; decide
  have e2 : (p.op == 2) = false := by rw [HO.out]; decide
  have e7 : (p.op == 7) = false := by rw [HO.out]; decide
  have e8 : (p.op == 8) = false := by rw [HO.out]; decide
  have e9 : (p.op == 9) = false := by rw [HO.out]; decide
  have e6 : (p.op == 6) = false := by rw [HO.out]; decide
  have e4 : (p.op == 4) = false := by rw [HO.out]; decide
  have e3 : (p.op == 3) = true := by rw [HO.out]; decide
  go_enter Tryd.func37, Tryd.ntmps37
  have hP5 : PAt w M s lines [.int .i64 p.op, .int .u64 p.set.a, .int .u64 p.set.b, .int .u64 p.set.c, .int .u64 p.set.d, .int .i64 p.lo, .int .i64 p.hi, .int .i64 p.gr, .slice ad n cap] (.int .i64 i) (.slice sa sp.length sc) ((((w.alloc (.cells #[.int .i64 p.op, .int .u64 p.set.a, .int .u64 p.set.b, .int .u64 p.set.c, .int .u64 p.set.d, .int .i64 p.lo, .int .i64 p.hi, .int .i64 p.gr, .slice ad n cap] 28)).alloc (.cells #[.int .i64 i, .slice sa sp.length sc] 71)).alloc (.cells #[.slice (some ⟨w.heap.size + 1 + 1 + 1, 0, none⟩) 1 1] 39)).alloc (.cells #[.int .i64 i, .slice sa sp.length sc] 71)) := ⟨(((Row.new rfl).alloc _).alloc _).alloc _, ((Row.new (by simp)).alloc _).alloc _, (((HM.out.alloc _).alloc _).alloc _).alloc _, ((((Below.refl _ _).alloc (Nat.le_refl _) _).alloc (by simp) _).alloc (by simp; omega) _).alloc (by simp; omega) _⟩
  have HZ : Hid (CatB w M s lines [.int .i64 p.op, .int .u64 p.set.a, .int .u64 p.set.b, .int .u64 p.set.c, .int .u64 p.set.d, .int .i64 p.lo, .int .i64 p.hi, .int .i64 p.gr, .slice ad n cap] (.int .i64 i) (.slice sa sp.length sc) [(i, sp)] (some ⟨w.heap.size + 1 + 1 + 1, 0, none⟩) 1 1 ((((w.alloc (.cells #[.int .i64 p.op, .int .u64 p.set.a, .int .u64 p.set.b, .int .u64 p.set.c, .int .u64 p.set.d, .int .i64 p.lo, .int .i64 p.hi, .int .i64 p.gr, .slice ad n cap] 28)).alloc (.cells #[.int .i64 i, .slice sa sp.length sc] 71)).alloc (.cells #[.slice (some ⟨w.heap.size + 1 + 1 + 1, 0, none⟩) 1 1] 39)).alloc (.cells #[.int .i64 i, .slice sa sp.length sc] 71))) :=
    ⟨hP5, (Row.new (by simp)).alloc _, (PsQ.lit (q := (i, sp)) (Row.new (by simp)) (HSP.out.1.of (fun _ _ hr => hr.below hP5.2.2.2 hr.lt))).mono (fun _ _ _ => trivial), rfl⟩
  have HQ0 : Hid (CatQ s lines N i sp xs 0 [(i, sp)]) := ⟨by rw [List.take_zero, catP], by simp, fun q hq => by rw [List.mem_singleton.1 hq]; exact ⟨Nat.le_refl _, hi, HSP.out.2⟩⟩
  clear hP5
  go_upto_region 32 with fail
  clear q0 q1 q2 q3 f3
  have q0 := HZ.out.1.1.c9
  go_wp2_with fail
  clear q0
  go_loopw [196] (fun v196 wr => ∃ (k : Nat) (l : List Parse) (oa : Option Addr) (m oc : Nat), v196 = .int .i64 k ∧ k ≤ n ∧ Hid (CatQ s lines N i sp xs k l ∧ CatB w M s lines [.int .i64 p.op, .int .u64 p.set.a, .int .u64 p.set.b, .int .u64 p.set.c, .int .u64 p.set.d, .int .i64 p.lo, .int .i64 p.hi, .int .i64 p.gr, .slice ad n cap] (.int .i64 i) (.slice sa sp.length sc) l oa m oc wr)) (fun v196 _ => n - (intOf v196).toNat)
  case atStart => exact ⟨0, _, _, _, _, rfl, Nat.zero_le _, HQ0.out, HZ.out⟩
  case round =>
    obtain ⟨k, l, oa, m, oc, rfl, hk, HX⟩ := hrel
    clear HZ HQ0
    have q3 := HX.out.2.2.1.cell 0
    by_cases hlt : k < n
    · have hltI : (k : Int) < (n : Int) := by omega
      have hkx : k < xs.length := by have := HNN.out; omega
      obtain ⟨bb, o, p', ad', n', cap', e3, HXC, HXI, hbb⟩ := HKID.out wr k hkx HX.out.2.1.2.2.2
      subst e3
      have hal : Below wr.heap.size wr (wr.alloc (.cells #[.int .i64 p'.op, .int .u64 p'.set.a, .int .u64 p'.set.b, .int .u64 p'.set.c, .int .u64 p'.set.d, .int .i64 p'.lo, .int .i64 p'.hi, .int .i64 p'.gr, .slice ad' n' cap'] 28)) := (Below.refl _ _).alloc (Nat.le_refl _) _
      have hY : CatB w M s lines _ (.int .i64 i) (.slice sa sp.length sc) l oa m oc (wr.alloc (.cells #[.int .i64 p'.op, .int .u64 p'.set.a, .int .u64 p'.set.b, .int .u64 p'.set.c, .int .u64 p'.set.d, .int .i64 p'.lo, .int .i64 p'.hi, .int .i64 p'.gr, .slice ad' n' cap'] 28)) ∧ Row (wr.alloc (.cells #[.int .i64 p'.op, .int .u64 p'.set.a, .int .u64 p'.set.b, .int .u64 p'.set.c, .int .u64 p'.set.d, .int .i64 p'.lo, .int .i64 p'.hi, .int .i64 p'.gr, .slice ad' n' cap'] 28)) wr.heap.size _ _ := ⟨HX.out.2.below hal, Row.new (w := wr) (cs := [.int .i64 p'.op, .int .u64 p'.set.a, .int .u64 p'.set.b, .int .u64 p'.set.c, .int .u64 p'.set.d, .int .i64 p'.lo, .int .i64 p'.hi, .int .i64 p'.gr, .slice ad' n' cap']) (T := 28) rfl⟩
      have HSTEP := hid (fun l' (h : stepP s.data.toList lines xs[k] l = some l') => catP_step s.data.toList lines hkx HX.out.1.1 h)
      have HNONE := hid (fun (h : stepP s.data.toList lines xs[k] l = none) => catP_none s.data.toList lines hkx HX.out.1.1 h)
      have HQL := hid HX.out.1.2
      have hm4 : m ≤ 4096 := by have := HX.out.1.2.1; have h2 := HX.out.2.2.2.2; omega
      have HML := hid HX.out.2.2.2.2
      have q4 := hY.1.2.1.cell 0
      obtain ⟨BB, hBB⟩ : ∃ B, B = wr.heap.size := ⟨_, rfl⟩
      have hzz : ((wr.alloc (.cells #[.int .i64 p'.op, .int .u64 p'.set.a, .int .u64 p'.set.b, .int .u64 p'.set.c, .int .u64 p'.set.d, .int .i64 p'.lo, .int .i64 p'.hi, .int .i64 p'.gr, .slice ad' n' cap'] 28))).heap.size = BB + 1 := by rw [hBB]; simp
      have HY := hid hY
      clear hY hal
      go_upto_region 35 with (with_reducible (refine wpList_load_agg rfl 28 _ rfl bb (o + k * 9) rfl _ _ HXC.out Tryd.underlying28 rfl (size_re9 _ _ _ _ _ _ _ _ _) ?_))
      clear q3
      rw [← hBB] at HY ⊢
      obtain ⟨Z, hZ⟩ : ∃ Z, Z = (wr.alloc (.cells #[.int .i64 p'.op, .int .u64 p'.set.a, .int .u64 p'.set.b, .int .u64 p'.set.c, .int .u64 p'.set.d, .int .i64 p'.lo, .int .i64 p'.hi, .int .i64 p'.gr, .slice ad' n' cap'] 28)) := ⟨_, rfl⟩
      rw [← hZ] at HY hzz q4 ⊢
      have HZS := hid hzz
      clear hzz hZ hBB HX
      go_wp2_with fail
      go_loopw [20, 202] (fun v20 v202 wr => ∃ (j : Nat) (ms : List (List Parse)) (na : Option Addr) (nn nc : Nat), v20 = .slice na nn nc ∧ v202 = .int .i64 j ∧ j ≤ m ∧ Hid ((l.take j).mapM (fun q : Parse => parses s.data.toList lines xs[k] q.1 q.2) = some ms ∧ (ms.flatten.length ≤ j * 4096 ∧ ∀ q, q ∈ ms.flatten → POk N s.size i q) ∧ nn = ms.flatten.length ∧ OwnP wr (BB + 1) (.slice na nn nc) ms.flatten ∧ Below (BB + 1) Z wr)) (fun _ v202 _ => m - (intOf v202).toNat)
      case atStart => exact ⟨0, [], none, 0, 0, rfl, rfl, Nat.zero_le _, by simp, ⟨by simp, fun q hq => by cases hq⟩, rfl, OwnP.nil _ _, Below.refl _ _⟩
      case round =>
        obtain ⟨j, ms, na, nn, nc, rfl, rfl, hj, HX⟩ := hrel
        have hbz : Below Z.heap.size Z wr := by rw [HZS.out]; exact HX.out.2.2.2.2
        have HB := hid (⟨HY.out.1.below hbz, HY.out.2.below hbz HY.out.2.lt⟩ : CatB w M s lines _ (.int .i64 i) (.slice sa sp.length sc) l oa m oc wr ∧ Row wr BB _ _)
        clear hbz
        by_cases hlt2 : j < m
        · have hltJ : (j : Int) < (m : Int) := by omega
          obtain ⟨b, cc, u1, u2, va2, vc2, hq, ev, hbl, -, -, p0, p1, hsq⟩ := HB.out.1.2.2.1.get (k := j) (by have := HML.out; omega)
          injection ev with e1 e2 e3
          subst e1; subst e3
          clear e2
          have hpk := HQL.out.2 (u1, u2) (List.mem_of_getElem? hq)
          have hal : Below wr.heap.size wr (wr.alloc (.cells #[.int .i64 u1, .slice va2 u2.length vc2] 71)) := (Below.refl _ _).alloc (Nat.le_refl _) _
          have hW : CatB w M s lines _ (.int .i64 i) (.slice sa sp.length sc) l _ m _ (wr.alloc (.cells #[.int .i64 u1, .slice va2 u2.length vc2] 71)) ∧ Row (wr.alloc (.cells #[.int .i64 u1, .slice va2 u2.length vc2] 71)) BB _ _ ∧ Row (wr.alloc (.cells #[.int .i64 u1, .slice va2 u2.length vc2] 71)) wr.heap.size _ _ ∧ OwnP (wr.alloc (.cells #[.int .i64 u1, .slice va2 u2.length vc2] 71)) (BB + 1) (.slice na nn nc) ms.flatten := ⟨HB.out.1.below hal, HB.out.2.below hal HB.out.2.lt, Row.new (w := wr) (cs := [.int .i64 u1, .slice va2 u2.length vc2]) (T := 71) rfl, HX.out.2.2.2.1.below hal⟩
          have r0 := hW.2.1.c9
          have r1 := hW.2.2.1.two9
          have HCK := hid (HCH.out (wr.alloc (.cells #[.int .i64 u1, .slice va2 u2.length vc2] 71)) k hkx _ HXI.out hW.1.1.2.2.2 va2 vc2 u2 u1 (hsq.below hal) hpk.2.2 hpk.2.1)
          have HLE := hid (HLEN.out k hkx u1 u2 hpk.2.1 hpk.2.2)
          have HPO := hid (HPOK.out k hkx u1 u2 hpk.2.1 hpk.2.2)
          have HST := hid (fun m' (h : parses s.data.toList lines xs[k] u1 u2 = some m') => mapM_step (f := (fun q : Parse => parses s.data.toList lines xs[k] q.1 q.2)) hq HX.out.1 h)
          have HNO := hid (fun (h : parses s.data.toList lines xs[k] u1 u2 = none) => HNONE.out (stepP_none s.data.toList lines hq HX.out.1 h))
          have HW := hid (⟨hW, hal⟩ : _ ∧ _)
          have HI1 := hid hpk.1
          obtain ⟨r, hr⟩ : ∃ r, r = parses s.data.toList lines xs[k] u1 u2 := ⟨_, rfl⟩
          rw [← hr] at HCK HLE HPO HST HNO
          clear hr hq hpk hW hal hsq
          go_wp2_with fail
          refine HCK.out.mono ?_
          rintro e z ⟨hb, hres⟩
          clear p0 p1 r0 r1
          cases r with
          | none =>
            subst hres
            refine And.intro rfl ?_
            show ParP w _ (.panicked exh) z
            rw [HPA.out, HNO.out rfl]
            exact ⟨HW.out.1.1.1.2.2.2.trans (hb.mono HW.out.1.1.1.2.2.2.size), rfl⟩
          | some l2 =>
            obtain ⟨a9, c9, rfl, hps⟩ := hres
            have hl4 := HLE.out l2 rfl
            have HOX := hid (HW.out.1.2.2.2.below hb)
            have HBZ : Hid (Below (BB + 1) Z z) := by
              have h1 := HX.out.2.2.2.2
              have h2 : Z.heap.size ≤ wr.heap.size := h1.size
              rw [HZS.out] at h2
              have h3 := HW.out.2.size
              exact (h1.trans (HW.out.2.mono h2)).trans (hb.mono (by omega))
            have HPS := hid hps
            have HLL : Hid (ms.flatten.length + l2.length ≤ 40000000) := by have := HX.out.2.1.1; show _ ≤ _; omega
            clear hps hb
            go_wp2_with (at_builtin; refine wpList_append_psB rfl _ _ rfl (BB + 1) _ ms.flatten l2 _ _ rfl HOX.out rfl HPS.out HLL.out ?c0 ?_)
            case c0 => have h1 := HBZ.out.size; rw [HZS.out] at h1; exact h1
            intro a' n9 c' w3 hn9 hown hg hnew
            have hbw3 := HBZ.out.grown hg (by have h1 := HBZ.out.size; rw [HZS.out] at h1; exact h1) (fun g hg' => (HOX.out.lt g hg').1)
            have HN : Hid ((l.take (j + 1)).mapM (fun q : Parse => parses s.data.toList lines xs[k] q.1 q.2) = some (ms ++ [l2]) ∧ ((ms ++ [l2]).flatten.length ≤ (j + 1) * 4096 ∧ ∀ q, q ∈ (ms ++ [l2]).flatten → POk N s.size i q) ∧ n9 = (ms ++ [l2]).flatten.length ∧ OwnP w3 (BB + 1) (.slice a' n9 c') (ms ++ [l2]).flatten ∧ Below (BB + 1) Z w3) := by
              have e : (ms ++ [l2]).flatten = ms.flatten ++ l2 := by simp
              rw [e]
              refine ⟨HST.out l2 rfl, ⟨by have := HX.out.2.1.1; rw [List.length_append]; omega, fun q hq => ?_⟩, by rw [hn9]; simp, hown, hbw3⟩
              rcases List.mem_append.1 hq with h | h
              · exact HX.out.2.1.2 q h
              · have := HPO.out l2 rfl q h
                exact ⟨Nat.le_trans HI1.out this.1, this.2⟩
            clear hn9 hown hg hnew hbw3
            go_wp2_with fail
            exact ⟨⟨j + 1, ms ++ [l2], a', n9, c', rfl, by rw [Int.natCast_add]; rfl, hlt2, HN.out⟩, by simp [intOf]; omega⟩
        · have hje : j = m := by omega
          have hltJ : ¬ (j : Int) < (m : Int) := by omega
          have hMAP : l.mapM (fun q : Parse => parses s.data.toList lines xs[k] q.1 q.2) = some ms := by have h := HX.out.1; rwa [List.take_of_length_le (by have := HML.out; omega)] at h
          have HSP2 : Hid (stepP s.data.toList lines xs[k] l = onceR ms.flatten) := by show _ = _; unfold stepP; rw [hMAP]; rfl
          have HON := hid (ponce_big wr _ _ ms.flatten HX.out.2.2.2.1.psq (by have := HX.out.2.1.1; omega) (fun q hq => (HX.out.2.1.2 q hq).fine hN hs) (HT.out.on HB.out.1.1.2.2.2))
          have HFL := hid HX.out.2.1.2
          obtain ⟨r, hr⟩ : ∃ r, r = onceR ms.flatten := ⟨_, rfl⟩
          have HRE := hid hr.symm
          rw [← hr] at HON HSP2
          clear hr hMAP HX
          go_wp2_with fail
          refine HON.out.mono ?_
          rintro e z ⟨hb, hres⟩
          cases r with
          | none =>
            subst hres
            refine And.intro rfl ?_
            show ParP w _ (.panicked exh) z
            rw [HPA.out, HNONE.out HSP2.out]
            exact ⟨HB.out.1.1.2.2.2.trans (hb.mono HB.out.1.1.2.2.2.size), rfl⟩
          | some l3 =>
            obtain ⟨a9, c9, rfl, hps⟩ := hres
            have hCZ := HB.out.1.below hb
            have q5 := hCZ.2.1.cell 0
            have f5 := hCZ.2.1.free 0
            have HN := hid (hCZ.put hps rfl HMW.out)
            have HQ2 : Hid (CatQ s lines N i sp xs (k + 1) l3) := ⟨HSTEP.out l3 HSP2.out, (onceR_le HRE.out).1, fun q hq => HFL.out q ((onceR_le HRE.out).2 q hq)⟩
            clear hb hps hCZ
            go_wp2_with fail
            exact ⟨⟨k + 1, l3, a9, l3.length, c9, by rw [Int.natCast_add]; rfl, hlt, HQ2.out, HN.out⟩, by simp [intOf]; omega⟩
    · have hke : k = n := by omega
      have hltI : ¬ (k : Int) < (n : Int) := by omega
      have hAL : catP s.data.toList lines xs [(i, sp)] = some l := by have h := HX.out.1.1; rwa [List.take_of_length_le (by have := HNN.out; omega)] at h
      have HPA2 : Hid (fin s.size l = parses s.data.toList lines (.mk p xs) i sp) := by show _ = _; rw [HPA.out, hAL]; rfl
      have hml : l.length ≤ 200000 := by have := HX.out.1.2.1; omega
      have hmk : ∀ q, q ∈ l → POk N s.size 0 q := fun q hq => by
        have h2 := HX.out.1.2.2 q hq
        exact ⟨Nat.zero_le _, h2.2.1, h2.2.2⟩
      have HE := hid (pend2_any w wr _ _ l N s.size _ HX.out.2.2.2.1 HX.out.2.1.2.2.2 hml hmk hN hs HT.out HPA2.out)
      clear HX hml hmk hke hAL
      go_wp2_with fail
      refine HE.out.mono ?_
      rintro e z2 ⟨hb2, h2⟩
      obtain ⟨r2, hr2⟩ : ∃ r2, r2 = parses s.data.toList lines (.mk p xs) i sp := ⟨_, rfl⟩
      rw [← hr2] at h2
      have HR2 := hid hr2
      clear hr2
      cases r2 with
      | none =>
        subst h2
        refine ⟨rfl, ?_⟩
        rw [← HR2.out]
        exact ⟨hb2, rfl⟩
      | some l2 =>
        obtain ⟨a2, c2, rfl, h2⟩ := h2
        have HR := hid (⟨hb2, h2⟩ : _ ∧ _)
        clear hb2 h2
        go_wp2_with fail
        go_ret
        rw [← HR2.out]
        exact ⟨HR.out.1, a2, c2, rfl, HR.out.2⟩
end Go.Proofs.YthnpbopnpdlmnaaDoor

/- Situations as keys of a map. -/
namespace Go.Proofs.YthnpbopnpdlmnaaDoor
open Go.RowKit

def encS (x : Nat × List UInt8) : Value := .agg #[.int .i64 x.1, strV x.2]
def sitK (y : Sit) : Nat × List UInt8 := (y.1, keyB y.2)
theorem sitK_mem {y : Sit} {l : List Sit} : sitK y ∈ l.map sitK ↔ y ∈ l := by
  rw [List.mem_map]
  refine ⟨fun ⟨z, h1, h2⟩ => ?_, fun h => ⟨y, h, rfl⟩⟩
  have h3 := congrArg Prod.fst h2
  have h4 := keyB_inj (congrArg Prod.snd h2)
  have : z = y := Prod.ext h3 h4
  exact this ▸ h1
theorem sit_fields : (Tryd.prog.fieldsOf 106).toList.map (fun f => (f.name == "_", f.type, f.offset)) = [(false, 3, 0), (false, 9, 1)] := by kernel_rfl
theorem two_fields {fs : List Field} {a b : Bool × TypeId × Nat} (h : fs.map (fun f => (f.name == "_", f.type, f.offset)) = [a, b]) : ∃ f1 f2, fs = [f1, f2] ∧ (f1.name == "_", f1.type, f1.offset) = a ∧ (f2.name == "_", f2.type, f2.offset) = b := by
  match fs, h with
  | [f1, f2], h => exact ⟨f1, f2, rfl, by simpa using (List.cons.inj h).1, by simpa using (List.cons.inj (List.cons.inj h).2).1⟩
  | [], h => cases h
  | [_], h => simp at h
  | _ :: _ :: _ :: _, h => simp at h
theorem equal_sit (x y : Nat × List UInt8) (w : World) : (Op.equal 106 (encS x) (encS y)).run Tryd.prog w = .ok (x == y) w := by
  obtain ⟨m, hm⟩ : ∃ m, m + 1 + 1 = 10000 := ⟨9998, by omega⟩
  have h1 := run_equalIn_agg (P := Tryd.prog) w (m + 1) 106 #[.int .i64 x.1, strV x.2] #[.int .i64 y.1, strV y.2] (by kernel_rfl) (by kernel_rfl)
  obtain ⟨f1, f2, hf, ha, hb⟩ := two_fields sit_fields
  rw [hf] at h1
  simp only [Prod.mk.injEq] at ha hb
  obtain ⟨a1, a2, a3⟩ := ha
  obtain ⟨b1, b2, b3⟩ := hb
  rw [hm] at h1
  unfold Op.equal Op.maxDepth encS
  rw [h1]
  have hi : Tryd.prog.underlying 3 = some (.int .i64) := Tryd.underlying3
  have hs : Tryd.prog.underlying 9 = some .string := Tryd.underlying9
  have n1 : f1.name ≠ "_" := by simpa using a1
  have n2 : f2.name ≠ "_" := by simpa using b1
  have p1 : ∀ (z : Nat × List UInt8), (part 3 #[.int .i64 z.1, strV z.2] 0).run Tryd.prog w = .ok (.int .i64 z.1) w := fun z => run_part_plain w (by unfold Program.plainKey; rw [hi]) rfl
  have p2 : ∀ (z : Nat × List UInt8), (part 9 #[.int .i64 z.1, strV z.2] 1).run Tryd.prog w = .ok (strV z.2) w := fun z => run_part_plain w (by unfold Program.plainKey; rw [hs]) rfl
  have q1 := run_equalIn_int (P := Tryd.prog) w m 3 .i64 .i64 x.1 y.1 hi
  have q2 : (Op.equalIn (m + 1) 9 (strV x.2) (strV y.2)).run Tryd.prog w = .ok (x.2 == y.2) w := by
    have := run_equalIn_string (P := Tryd.prog) w m 9 ⟨x.2.toArray⟩ ⟨y.2.toArray⟩ hs
    rw [← beq_toListBytes, str_beq] at this
    exact this
  have e1 : ((x.1 : Int) == (y.1 : Int)) = (x.1 == y.1) := by
    by_cases h : x.1 = y.1
    · rw [h, beq_self_eq_true, beq_self_eq_true]
    · rw [(beq_eq_false_iff_ne.2 (by omega) : ((x.1 : Int) == (y.1 : Int)) = false), (beq_eq_false_iff_ne.2 h : (x.1 == y.1) = false)]
  rw [e1] at q1
  rw [show (x == y) = (x.1 == y.1 && x.2 == y.2) from rfl]
  generalize (x.1 == y.1) = c1 at q1 ⊢
  generalize (x.2 == y.2) = c2 at q2 ⊢
  cases c1 <;> cases c2 <;> simp [Op.eqFields, n1, n2, a2, a3, b2, b3, p1, p2, q1, q2]
theorem check_sit (b : Bool) (x : Nat × List UInt8) (w : World) : (Instr.checkKey b 10000 106 (encS x)).run Tryd.prog w = .ok () w := by
  obtain ⟨m, hm⟩ : ∃ m, m + 1 + 1 = 10000 := ⟨9998, by omega⟩
  obtain ⟨f1, f2, hf, ha, hb⟩ := two_fields sit_fields
  simp only [Prod.mk.injEq] at ha hb
  obtain ⟨a1, a2, a3⟩ := ha
  obtain ⟨b1, b2, b3⟩ := hb
  have hi : Tryd.prog.underlying 3 = some (.int .i64) := Tryd.underlying3
  have hs : Tryd.prog.underlying 9 = some .string := Tryd.underlying9
  have n1 : f1.name ≠ "_" := by simpa using a1
  have n2 : f2.name ≠ "_" := by simpa using b1
  have hu : Tryd.prog.underlying 106 = some (.struct (Tryd.prog.fieldsOf 106)) := by kernel_rfl
  have p1 : (part 3 #[.int .i64 x.1, strV x.2] 0).run Tryd.prog w = .ok (.int .i64 x.1) w := run_part_plain w (by unfold Program.plainKey; rw [hi]) rfl
  have p2 : (part 9 #[.int .i64 x.1, strV x.2] 1).run Tryd.prog w = .ok (strV x.2) w := run_part_plain w (by unfold Program.plainKey; rw [hs]) rfl
  have c1 := MapKept.run_checkKey (P := Tryd.prog) (w := w) (k := .int .i64 x.1) hi rfl b m
  have c2 := MapKept.run_checkKey (P := Tryd.prog) (w := w) (k := strV x.2) hs trivial b m
  rw [← hm]
  unfold Instr.checkKey encS
  simp only [Sem.run_bind, run_underlying hu, Result.andThen_ok]
  rw [← Array.forIn_toList, hf]
  simp only [List.forIn_cons, List.forIn_nil, Sem.run_bind, if_pos n1, if_pos n2, a2, a3, b2, b3, p1, p2, c1, c2, Result.andThen_ok, Sem.run_pure]
theorem KeyLaw.sit : KeyLaw Tryd.prog 106 encS := by
  refine ⟨check_sit, fun x es l w h => ?_⟩
  obtain ⟨r, h1, h2, h3⟩ := findAsk (P := Tryd.prog) (enc := encS) equal_sit x w es l 0 h
  exact ⟨r, (run_findKey_eq w (by kernel_rfl) _ _).trans h1, h2, h3⟩
end Go.Proofs.YthnpbopnpdlmnaaDoor

/- The reference of the parses: a visit. -/
namespace Go.Proofs.YthnpbopnpdlmnaaDoor
open Go.RowKit
attribute [local go_sem] gives givesUpon

section
variable (p : Pay) (gs : List Nat) (child : Nat → Spans → Option (List Parse))
def vstep (f c i : Nat) (st : List Sit × List Parse) (q : Parse) : Option (List Sit × List Parse) := if q.1 = i ∧ p.lo ≤ (c : Int) then some st else visit p gs child f (c + 1, q.1, q.2) st
def vfold (f c i : Nat) (sp : Spans) (seen : List Sit) (out : List Parse) : Option (List Sit × List Parse) :=
  if p.hi < 0 ∨ (c : Int) < p.hi then (child i (unset sp gs)).bind fun l => l.foldlM (vstep p gs child f c i) (seen ++ [(c, i, sp)], out) else some (seen ++ [(c, i, sp)], out)
def vend (c i : Nat) (sp : Spans) (st : List Sit × List Parse) : List Sit × List Parse := (st.1, if p.lo ≤ (c : Int) then st.2 ++ [(i, sp)] else st.2)
theorem visit_body (f c0 i : Nat) (sp : Spans) (seen : List Sit) (out : List Parse) (c : Nat) (hc : c = if p.hi < 0 ∧ p.lo < (c0 : Int) then p.lo.toNat else c0) : visit p gs child (f + 1) (c0, i, sp) (seen, out) =
    if (c, i, sp) ∈ seen then some (seen, out) else if most < seen.length + 1 then none else (vfold p gs child f c i sp seen out).bind fun st => some (vend p c i sp st) := by
  subst hc
  rw [visit]
  rfl
end
theorem foldlM_step {α σ : Type} {f : σ → α → Option σ} {l : List α} {k : Nat} {q : α} {s s1 : σ} (h : l[k]? = some q) (h1 : (l.take k).foldlM f s = some s1) : (l.take (k + 1)).foldlM f s = f s1 q := by
  rw [List.take_add_one, h, List.foldlM_append, h1]
  cases hq : f s1 q <;> simp [hq]
theorem foldlM_none {α σ : Type} {f : σ → α → Option σ} {l : List α} {k : Nat} {q : α} {s s1 : σ} (h : l[k]? = some q) (h1 : (l.take k).foldlM f s = some s1) (h2 : f s1 q = none) : l.foldlM f s = none := by
  have hk : k < l.length := (List.getElem?_eq_some_iff.1 h).1
  have e : l = l.take (k + 1) ++ l.drop (k + 1) := (List.take_append_drop _ _).symm
  rw [e, List.foldlM_append, foldlM_step h h1, h2]
  rfl

section
variable {p : Pay} {gs : List Nat} {child : Nat → Spans → Option (List Parse)}
theorem vstep_len {f c i : Nat} (ih : ∀ (x : Sit) (st st' : List Sit × List Parse), visit p gs child f x st = some st' → st'.2.length + st.1.length ≤ st'.1.length + st.2.length) : ∀ (l : List Parse) (s0 st' : List Sit × List Parse), l.foldlM (vstep p gs child f c i) s0 = some st' → st'.2.length + s0.1.length ≤ st'.1.length + s0.2.length := by
  intro l
  induction l with
  | nil =>
    intro s0 st' h
    have := Option.some.inj h
    subst this
    omega
  | cons q l ihl =>
    intro s0 st' h
    rw [List.foldlM_cons] at h
    obtain ⟨s1, h1, h2⟩ := Option.bind_eq_some_iff.1 h
    have h3 := ihl s1 st' h2
    unfold vstep at h1
    split at h1
    · have := Option.some.inj h1
      subst this
      exact h3
    · have h4 := ih _ _ _ h1
      omega
theorem vfold_len {f c i : Nat} {sp : Spans} {seen : List Sit} {out : List Parse} {st' : List Sit × List Parse} (ih : ∀ (x : Sit) (st st' : List Sit × List Parse), visit p gs child f x st = some st' → st'.2.length + st.1.length ≤ st'.1.length + st.2.length) (h : vfold p gs child f c i sp seen out = some st') : st'.2.length + (seen.length + 1) ≤ st'.1.length + out.length := by
  unfold vfold at h
  split at h
  · obtain ⟨l, h1, h2⟩ := Option.bind_eq_some_iff.1 h
    have := vstep_len ih l _ _ h2
    simpa using this
  · have := Option.some.inj h
    subst this
    simp; omega
theorem visit_len : ∀ (f : Nat) (x : Sit) (st st' : List Sit × List Parse), visit p gs child f x st = some st' → st'.2.length + st.1.length ≤ st'.1.length + st.2.length
  | 0, x, st, st', h => by rw [visit] at h; cases h
  | f + 1, (c0, i, sp), (seen, out), st', h => by
    obtain ⟨c, hc⟩ : ∃ c : Nat, c = if p.hi < 0 ∧ p.lo < (c0 : Int) then p.lo.toNat else c0 := ⟨_, rfl⟩
    rw [visit_body p gs child f c0 i sp seen out c hc] at h
    by_cases h5 : (c, i, sp) ∈ seen
    · rw [if_pos h5] at h
      have := Option.some.inj h
      subst this
      dsimp only
      omega
    rw [if_neg h5] at h
    by_cases h6 : most < seen.length + 1
    · rw [if_pos h6] at h
      cases h
    · rw [if_neg h6] at h
      obtain ⟨s1, h1, h2⟩ := Option.bind_eq_some_iff.1 h
      have h3 := vfold_len (visit_len f) h1
      have := Option.some.inj h2
      subst this
      unfold vend
      dsimp only
      split <;> simp <;> omega
end
section
variable {N : Nat} {s : ByteArray} {lines : Bool} {E0 E1 E2 E3 E4 E5 E6 E7 E8 : Value} {base X : Nat} {w : World} {sv ov : Value} {m c i : Nat} {spv : Value} {sp : Spans} {st : List Sit × List Parse} {sv' ov' : Value} {y : World}
end
end Go.Proofs.YthnpbopnpdlmnaaDoor
