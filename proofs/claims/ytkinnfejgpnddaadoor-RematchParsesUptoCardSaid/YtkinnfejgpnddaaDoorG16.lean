/- The program of layer 9: parses of a group. -/
import Derived.Test.YtkinnfejgpnddaaDoorG15
import Derived.Deep.Cut
import Derived.Test.YtkinnfejgpnddaaDoorG12
namespace Go.Proofs.YtkinnfejgpnddaaDoor
open Go.RowKit
attribute [local go_sem] gives givesUpon givesPan givesUponP

theorem OutPost.span {OB : Nat} {ov ov' : Value} {l0 l : List Parse} {w w' : World} (h : OutPost OB ov w ov' l w') (h0 : OutV OB ov l0 w) {v : Value} {sp : Spans} (hs : SpQ w v sp) : SpQ w' v sp :=
  hs.of fun b cs hr => hr.but h.2.1 (fun hm => by
    rcases List.mem_cons.1 hm with rfl | hm
    · exact absurd (hr.typed h0.1) (by decide)
    · obtain ⟨cs', hr'⟩ := h0.2.row (mem_blk.1 hm)
      exact absurd (hr.typed hr') (by decide))
theorem OutPost.ps {OB : Nat} {ov ov' : Value} {l0 l : List Parse} {w w' : World} (h : OutPost OB ov w ov' l w') (h0 : OutV OB ov l0 w) {v : Value} {m : List Parse} (hs : PsQ (fun b => ov.ownBlock ≠ some b) w v m) : PsQ (fun b => ov'.ownBlock ≠ some b) w' v m :=
  hs.of (fun b cs hr => hr.but h.2.1 (fun hm => by
    rcases List.mem_cons.1 hm with rfl | hm
    · exact absurd (hr.typed h0.1) (by decide)
    · obtain ⟨cs', hr'⟩ := h0.2.row (mem_blk.1 hm)
      exact absurd (hr.typed hr') (by decide))) fun b cs hp hr => ⟨hr.but h.2.1 (fun hm => by
    rcases List.mem_cons.1 hm with rfl | hm
    · exact absurd (hr.typed h0.1) (by decide)
    · exact hp (mem_blk.1 hm)), fun e => by
      rcases h.2.2 b e with h1 | h1
      · exact hp h1
      · have := hr.lt; omega⟩
theorem OutPost.old {OB : Nat} {ov ov' : Value} {l : List Parse} {w0 w w' : World} (h : OutPost OB ov w ov' l w') (_hb : Below w0.heap.size w0 w) (hs : w0.heap.size ≤ w.heap.size) (_hn : ∀ g, ov.ownBlock = some g → w0.heap.size ≤ g ∨ ov.ownBlock = some g) : ∀ g, ov'.ownBlock = some g → ov.ownBlock = some g ∨ w0.heap.size ≤ g := fun g hg => (h.2.2 g hg).imp id (fun h => Nat.le_trans hs h)
-- def BX := [.int .i64 p.op, .int .u64 p.set.a, .int .u64 p.set.b, .int .u64 p.set.c, .int .u64 p.set.d, .int .i64 p.lo, .int .i64 p.hi, .int .i64 p.gr, .slice (some ⟨bb, o, none⟩) 1 cap]
-- def W3 := (((w.alloc (.cells #[.int .i64 p.op, .int .u64 p.set.a, .int .u64 p.set.b, .int .u64 p.set.c, .int .u64 p.set.d, .int .i64 p.lo, .int .i64 p.hi, .int .i64 p.gr, .slice (some ⟨bb, o, none⟩) 1 cap] 28)).alloc (.cells #[.int .i64 i, .slice sa sp.length sc] 48)).alloc (.cells #[.slice none 0 0] 33))
-- def WB := (wr.alloc (.cells #[.int .i64 u1, .slice va2 u2.length vc2] 48))
-- def FN := (*texttools/rematch.matcher).parses
-- def PP := PAt w M s lines [.int .i64 p.op, .int .u64 p.set.a, .int .u64 p.set.b, .int .u64 p.set.c, .int .u64 p.set.d, .int .i64 p.lo, .int .i64 p.hi, .int .i64 p.gr, .slice (some ⟨bb, o, none⟩) 1 cap] (.int .i64 i) (.slice sa sp.length sc)
-- def FM := (fun q : Parse => ((q.1, q.2.set (p.gr.toNat - 1) ((i : Int), (q.1 : Int))) : Parse))
set_option maxRecDepth 100000 in
set_option maxHeartbeats 32000000 in
theorem ppar6 (wb : World) (N : Nat) (hN : N ≤ 9) (s : ByteArray) (hs : s.size ≤ 1000000) (lines : Bool) (p : Pay) (x0 : Re) (hop : p.op = 6) (HX0 : PPar wb N s lines x0) : PPar wb N s lines (.mk p [x0]) := by
  intro w cs M sa sc sp i hIn hok hsz hbw hM hsp hspo hi ht
  rw [Re.In] at hIn
  obtain ⟨ad, cap, rfl, hwf, -, -, -, hall⟩ := hIn
  obtain ⟨bb, o, cs0, hq1, hq2, hq3⟩ := hall.get 0 x0 (by simp)
  subst hq1
  simp only [Pay.cells]
  have hP : PAt w M s lines [.int .i64 p.op, .int .u64 p.set.a, .int .u64 p.set.b, .int .u64 p.set.c, .int .u64 p.set.d, .int .i64 p.lo, .int .i64 p.hi, .int .i64 p.gr, .slice (some ⟨bb, o, none⟩) 1 cap] (.int .i64 i) (.slice sa sp.length sc) (((w.alloc (.cells #[.int .i64 p.op, .int .u64 p.set.a, .int .u64 p.set.b, .int .u64 p.set.c, .int .u64 p.set.d, .int .i64 p.lo, .int .i64 p.hi, .int .i64 p.gr, .slice (some ⟨bb, o, none⟩) 1 cap] 28)).alloc (.cells #[.int .i64 i, .slice sa sp.length sc] 48)).alloc (.cells #[.slice none 0 0] 33)) := ⟨((Row.new rfl).alloc _).alloc _, (Row.new (by simp)).alloc _, ((hM.alloc _).alloc _).alloc _, (((Below.refl _ _).alloc (Nat.le_refl _) _).alloc (by simp) _).alloc (by simp; omega) _⟩
  have hO : OutV (w.heap.size + 2) (.slice none 0 0) [] (((w.alloc (.cells #[.int .i64 p.op, .int .u64 p.set.a, .int .u64 p.set.b, .int .u64 p.set.c, .int .u64 p.set.d, .int .i64 p.lo, .int .i64 p.hi, .int .i64 p.gr, .slice (some ⟨bb, o, none⟩) 1 cap] 28)).alloc (.cells #[.int .i64 i, .slice sa sp.length sc] 48)).alloc (.cells #[.slice none 0 0] 33)) := ⟨Row.new (by simp), OwnP.nil _ _⟩
  have hk := hall.kid (hbw.trans (hP.2.2.2.mono hbw.size)) 0 (by simp)
  obtain ⟨bb', o', p', ad', n', cap', e', HXC, HXI, hbb⟩ := hk
  injection e' with e'
  injection e' with e1 e2
  subst e1; subst e2
  have q0 := hP.1.c9
  have q1 := hP.2.2.1.two9
  have HP := hid (⟨hP, hO⟩ : _ ∧ _)
  have HT := hid ht
  have HSP := hid (⟨hsp, hspo⟩ : _ ∧ _)
  have HO := hid hop
  have HMW := hid hM.lt
  have hsl : s.data.toList.length = s.size := by rw [Array.length_toList]; rfl
  have HSL := hid hsl
  have hok2 := hok
  rw [Re.ok, Re.oks] at hok2
  have hgr := hok2.2.2.2.1 (.inl hop)
  have hok0 := hok2.2.2.2.2.1
  have hszz : x0.size ≤ 20 := by rw [Re.size_mk] at hsz; have h1 : Re.sizes [x0] = x0.size + 0 := rfl; omega
  have HPA : Hid (parses s.data.toList lines (.mk p [x0]) i sp = (parses s.data.toList lines x0 i sp).bind fun l => fin s.size (l.map (fun q : Parse => ((q.1, q.2.set (p.gr.toNat - 1) ((i : Int), (q.1 : Int))) : Parse)))) := by
    show _ = _; rw [parses]; simp only [hop, firstP, hsl]; rfl
  have hlen0 := fun l (h : parses s.data.toList lines x0 i sp = some l) => parses_len hok0 (by rw [hsl]; exact hi) (by rw [hsl]; exact hspo) h
  have hpok := fun l (h : parses s.data.toList lines x0 i sp = some l) => parses_ok s.data.toList lines N x0 i sp l hok0 (by rw [hsl]; exact hi) (by rw [hsl]; exact hspo) h
  rw [hsl] at hpok
  have hch := HX0 (((w.alloc (.cells #[.int .i64 p.op, .int .u64 p.set.a, .int .u64 p.set.b, .int .u64 p.set.c, .int .u64 p.set.d, .int .i64 p.lo, .int .i64 p.hi, .int .i64 p.gr, .slice (some ⟨bb, o, none⟩) 1 cap] 28)).alloc (.cells #[.int .i64 i, .slice sa sp.length sc] 48)).alloc (.cells #[.slice none 0 0] 33)) _ M sa sc sp i HXI.out hok0 hszz (hbw.trans (hP.2.2.2.mono hbw.size)) hP.2.2.1 (hsp.below hP.2.2.2) hspo hi (ht.on hP.2.2.2)
  obtain ⟨r, hr⟩ : ∃ r, r = parses s.data.toList lines x0 i sp := ⟨_, rfl⟩
  rw [← hr] at HPA hlen0 hpok hch
  have HLEN := hid hlen0
  have HPOK := hid hpok
  have HCH := hid hch
  have hgN : 1 ≤ p.gr.toNat ∧ p.gr.toNat ≤ N := by omega
  have hgi : ((p.gr.toNat : Nat) : Int) = p.gr := by omega
  have HGI := hid hgi
  have hgr9 : 1 ≤ p.gr ∧ p.gr ≤ 9 := by omega
  clear hP hO hok hok2 hsz hbw hM hsp ht hop hsl hgr hok0 hszz hlen0 hpok hch hr hall hwf hgi hspo HX0 hq2 hq3
  have e1 : (p.op == 1) = false := by rw [HO.out]; decide
  have e2 : (p.op == 2) = false := by rw [HO.out]; decide
  have e7 : (p.op == 7) = false := by rw [HO.out]; decide
  have e8 : (p.op == 8) = false := by rw [HO.out]; decide
  have e9 : (p.op == 9) = false := by rw [HO.out]; decide
  have e6 : (p.op == 6) = true := by rw [HO.out]; decide
  go_enter Tryd.func46, Tryd.ntmps46
  go_wp2_with (with_reducible (refine wpList_load_agg rfl 28 _ rfl bb (o + 0 * 9) rfl _ _ HXC.out Tryd.underlying28 rfl (size_re9 _ _ _ _ _ _ _ _ _) ?_))
  refine HCH.out.mono ?_
  rintro e z ⟨hb, hres⟩
  have HZ := hid (⟨HP.out.1.later hb, HP.out.2.below hb, hb.size⟩ : PAt w M s lines [.int .i64 p.op, .int .u64 p.set.a, .int .u64 p.set.b, .int .u64 p.set.c, .int .u64 p.set.d, .int .i64 p.lo, .int .i64 p.hi, .int .i64 p.gr, .slice (some ⟨bb, o, none⟩) 1 cap] (.int .i64 i) (.slice sa sp.length sc) z ∧ OutV _ _ _ z ∧ _)
  clear hb HCH q0 q1
  cases r with
  | none =>
    subst hres
    refine ⟨rfl, ?_⟩
    rw [HPA.out]
    exact ⟨HZ.out.1.2.2.2, rfl⟩
  | some l =>
    obtain ⟨a9, c9, rfl, hps⟩ := hres
    have hl4 := HLEN.out l rfl
    have HPS : Hid (PsQ (fun b => (Value.slice none 0 0).ownBlock ≠ some b) z (.slice a9 l.length c9) l) := hps.mono fun b _ _ => by simp [Value.ownBlock]
    obtain ⟨n, hnn⟩ : ∃ n, n = l.length := ⟨_, rfl⟩
    have HNN := hid hnn
    rw [← hnn] at HPS hl4 ⊢
    have HPK := hid (HPOK.out l rfl)
    have HPA2 : Hid (fin s.size (l.map (fun q : Parse => ((q.1, q.2.set (p.gr.toNat - 1) ((i : Int), (q.1 : Int))) : Parse))) = parses s.data.toList lines (.mk p [x0]) i sp) := HPA.out.symm
    clear hps hnn HLEN HPOK HPA
    have hz3 : w.heap.size + 3 ≤ z.heap.size := by have := HZ.out.2.2; simp at this; omega
    go_wp2_with fail
    go_loopw [153] (fun v153 wr => ∃ (j : Nat) (ov : Value), v153 = .int .i64 j ∧ j ≤ n ∧ Hid (OutV (w.heap.size + 2) ov ((l.take j).map (fun q : Parse => ((q.1, q.2.set (p.gr.toNat - 1) ((i : Int), (q.1 : Int))) : Parse))) wr ∧ PAt w M s lines [.int .i64 p.op, .int .u64 p.set.a, .int .u64 p.set.b, .int .u64 p.set.c, .int .u64 p.set.d, .int .i64 p.lo, .int .i64 p.hi, .int .i64 p.gr, .slice (some ⟨bb, o, none⟩) 1 cap] (.int .i64 i) (.slice sa sp.length sc) wr ∧ PsQ (fun b => ov.ownBlock ≠ some b) wr (.slice a9 n c9) l ∧ w.heap.size + 3 ≤ wr.heap.size)) (fun v153 _ => n - (intOf v153).toNat)
    case atStart => exact ⟨0, _, rfl, Nat.zero_le _, HZ.out.2.1, HZ.out.1, HPS.out, hz3⟩
    case round =>
      obtain ⟨j, ov, rfl, hj, HX⟩ := hrel
      clear HZ HPS hz3
      by_cases hlt : j < n
      · have hltI : (j : Int) < (n : Int) := by omega
        obtain ⟨b, cc, u1, u2, va2, vc2, hq, ev, hbl, hbp, -, p0, p1, hsq⟩ := HX.out.2.2.1.get (k := j) (by have := HNN.out; omega)
        injection ev with e1 e2 e3
        subst e1; subst e3
        clear e2
        have hpk := HPK.out (u1, u2) (List.mem_of_getElem? hq)
        have hul : u2.length = N := hpk.2.2.1
        have HU := hid (⟨hpk, hul⟩ : _ ∧ u2.length = N)
        have HQ := hid hq
        have hal : Below wr.heap.size wr (wr.alloc (.cells #[.int .i64 u1, .slice va2 u2.length vc2] 48)) := (Below.refl _ _).alloc (Nat.le_refl _) _
        have HY := hid (⟨HX.out.1.below hal, HX.out.2.1.later hal, HX.out.2.2.1.below hal, Row.new (w := wr) (cs := [.int .i64 u1, .slice va2 u2.length vc2]) (T := 48) rfl, hsq.below hal, HX.out.2.2.2⟩ : OutV _ _ _ _ ∧ PAt w M s lines [.int .i64 p.op, .int .u64 p.set.a, .int .u64 p.set.b, .int .u64 p.set.c, .int .u64 p.set.d, .int .i64 p.lo, .int .i64 p.hi, .int .i64 p.gr, .slice (some ⟨bb, o, none⟩) 1 cap] (.int .i64 i) (.slice sa sp.length sc) _ ∧ PsQ _ _ _ _ ∧ Row (wr.alloc (.cells #[.int .i64 u1, .slice va2 u2.length vc2] 48)) wr.heap.size _ _ ∧ SpQ _ _ _ ∧ w.heap.size + 3 ≤ wr.heap.size)
        have HC := hid (fun (x : World) (hx : Grow ((wr.alloc (.cells #[.int .i64 u1, .slice va2 u2.length vc2] 48))).drew x) => (⟨(HY.out.2.1.later (grow_below hx)).1.c9, (HY.out.2.2.2.1.grow hx).two9⟩ : _ ∧ _))
        obtain ⟨U, hU⟩ : ∃ U : Spans, U = u2.set (p.gr.toNat - 1) ((i : Int), (u1 : Int)) := ⟨_, rfl⟩
        have hUl : u2.length = U.length := by rw [hU, List.length_set]
        have HWI := hid (fun (x : World) (hx : Grow ((wr.alloc (.cells #[.int .i64 u1, .slice va2 u2.length vc2] 48))).drew x) => (pwith_any x va2 vc2 u2 p.gr.toNat (i : Int) (u1 : Int) (HY.out.2.2.2.2.1.below (grow_below hx)) (by have := HU.out.2; omega) (by have := HU.out.2; omega)).mono (R' := fun e w' => ∃ a c, e = .returned (.slice a U.length c) ∧ Below x.heap.size x w' ∧ SpQ w' (.slice a U.length c) U) fun e w' h => by rw [← hUl, hU]; exact h)
        rw [HGI.out] at HWI
        have HTK : Hid (((l.take j).map (fun q : Parse => ((q.1, q.2.set (p.gr.toNat - 1) ((i : Int), (q.1 : Int))) : Parse))) ++ [((u1, U) : Parse)] = (l.take (j + 1)).map (fun q : Parse => ((q.1, q.2.set (p.gr.toNat - 1) ((i : Int), (q.1 : Int))) : Parse))) := by
          show _ = _; rw [List.take_add_one, HQ.out, hU]; simp
        have HLT : Hid (((l.take j).map (fun q : Parse => ((q.1, q.2.set (p.gr.toNat - 1) ((i : Int), (q.1 : Int))) : Parse))).length ≤ 200000) := by show _ ≤ _; rw [List.length_map, List.length_take]; omega
        clear hq hpk hul hal hsq hbp HX hU hUl
        go_upto_region 22 with fail
        clear p0 p1
        refine wp_region_two 13 14 rfl (Grow) (by kernel_rfl) (by kernel_rfl) (Grow.refl) (fun _ _ _ => Grow.trans) ?_
        simp only [fill, dstOf, Act.put, List.take_succ_cons, List.take_zero, List.getElem?_toArray, List.getElem?_cons_zero, List.getElem?_cons_succ, Option.bind_some, List.setIfInBounds_toArray, List.set_cons_zero, List.set_cons_succ]
        refine Plan.det 1 rfl (Grow.refl) ?_
        apply Exists.intro
        refine ⟨fun vs x hR hF K hK => ?_, ?_⟩
        · clear hF
          go_simp
          exact hK _ _ (Grow.refl _) rfl
        refine Plan.det 2 rfl (Grow.refl) ?_
        apply Exists.intro
        refine ⟨fun vs x hR hF K hK => ?_, ?_⟩
        · clear hF
          go_simp
          exact hK _ _ (Grow.refl _) rfl
        refine Plan.det 3 rfl (Grow.refl) ?_
        apply Exists.intro
        refine ⟨fun vs x hR hF K hK => ?_, ?_⟩
        · have f1 := hF 0 _ _ rfl rfl; have hc := HC.out x hR; clear hF
          go_simp
          exact hK _ _ (Grow.refl _) rfl
        refine Plan.det 4 rfl (Grow.refl) ?_
        apply Exists.intro
        refine ⟨fun vs x hR hF K hK => ?_, ?_⟩
        · clear hF
          go_simp
          exact hK _ _ (Grow.refl _) rfl
        refine Plan.det 5 rfl (Grow.refl) ?_
        apply Exists.intro
        refine ⟨fun vs x hR hF K hK => ?_, ?_⟩
        · have f3 := hF 0 _ _ rfl rfl; have hc := HC.out x hR; clear hF
          go_simp
          exact hK _ _ (Grow.refl _) rfl
        refine Plan.det 6 rfl (Grow.refl) ?_
        apply Exists.intro
        refine ⟨fun vs x hR hF K hK => ?_, ?_⟩
        · clear hF
          go_simp
          exact hK _ _ (Grow.refl _) rfl
        refine Plan.det 7 rfl (Grow.refl) ?_
        apply Exists.intro
        refine ⟨fun vs x hR hF K hK => ?_, ?_⟩
        · have f5 := hF 0 _ _ rfl rfl; have hc := HC.out x hR; clear hF
          go_simp
          exact hK _ _ (Grow.refl _) rfl
        refine Plan.det 8 rfl (Grow.refl) ?_
        apply Exists.intro
        refine ⟨fun vs x hR hF K hK => ?_, ?_⟩
        · clear hF
          go_simp
          exact hK _ _ (Grow.refl _) rfl
        refine Plan.det 9 rfl (Grow.refl) ?_
        apply Exists.intro
        refine ⟨fun vs x hR hF K hK => ?_, ?_⟩
        · clear hF
          go_simp
          exact hK _ _ (Grow.refl _) rfl
        refine Plan.det 10 rfl (Grow.refl) ?_
        apply Exists.intro
        refine ⟨fun vs x hR hF K hK => ?_, ?_⟩
        · have f8 := hF 0 _ _ rfl rfl; have hc := HC.out x hR; clear hF
          go_simp
          exact hK _ _ (Grow.refl _) rfl
        refine Plan.det 11 rfl (Grow.refl) ?_
        apply Exists.intro
        refine ⟨fun vs x hR hF K hK => ?_, ?_⟩
        · have f7 := hF 2 _ _ rfl rfl; have f9 := hF 0 _ _ rfl rfl; clear hF
          go_simp
          exact hK _ _ (Grow.refl _) rfl
        refine Plan.rel 12 rfl (Grow.refl) (fun v y => ∃ (a2 : Option Addr) (c2 : Nat), v = .slice a2 U.length c2 ∧ SpQ y (.slice a2 U.length c2) U) (fun v y1 y2 hR ⟨a2, c2, h1, h2⟩ => ⟨a2, c2, h1, h2.below hR⟩) (fun vs x hR hF K hK => ?_) ?_
        · have f4 := hF 6 _ _ rfl rfl; have f6 := hF 4 _ _ rfl rfl; have f10 := hF 0 _ _ rfl rfl
          go_simp
          refine (HWI.out x hR).mono ?_
          rintro e x1 ⟨a2, c2, rfl, hbe, h1⟩
          exact ⟨_, rfl, hK _ _ hbe ⟨a2, c2, rfl, h1⟩⟩
        refine Plan.rel 13 rfl (Grow.refl) (fun v y => ∃ (a2 : Option Addr) (c2 : Nat), v = .agg #[.int .i64 u1, .slice a2 U.length c2] ∧ SpQ y (.slice a2 U.length c2) U) (fun v y1 y2 hR ⟨a2, c2, h1, h2⟩ => ⟨a2, c2, h1, h2.below hR⟩) (fun vs x hR hF K hK => ?_) ?_
        · have f2 := hF 9 _ _ rfl rfl; have f11 := hF 0 _ _ rfl rfl
          obtain ⟨a2, c2, e9, h9⟩ := f11
          simp only [e9] at *
          go_simp
          exact hK _ _ (Grow.refl _) ⟨a2, c2, rfl, h9⟩
        refine PlanEnd (by simp) (fun vs x hR hF => ?_)
        have f0 := hF 12 _ _ rfl; have f1 := hF 11 _ _ rfl; have f2 := hF 10 _ _ rfl; have f3 := hF 9 _ _ rfl; have f4 := hF 8 _ _ rfl; have f5 := hF 7 _ _ rfl; have f6 := hF 6 _ _ rfl; have f7 := hF 5 _ _ rfl; have f8 := hF 4 _ _ rfl; have f9 := hF 3 _ _ rfl; have f10 := hF 2 _ _ rfl; have f11 := hF 1 _ _ rfl; have f12 := hF 0 _ _ rfl
        clear hF
        simp only [f0, f1, f2, f3, f4, f5, f6, f7, f8, f9, f10]
        clear f0 f1 f2 f3 f4 f5 f6 f7 f8 f9 f10
        intro oo hoo KQ hK
        obtain rfl := Option.some.inj hoo
        clear hoo
        have HXB := hid (grow_below hR)
        obtain ⟨a2, c2, e9, h9⟩ := f12
        have HX := hid (⟨HY.out.1.below HXB.out, HY.out.2.1.later HXB.out, HY.out.2.2.1.below HXB.out, h9, Nat.le_trans HY.out.2.2.2.2.2 (by have := HXB.out.size; simp at this; omega)⟩ : OutV (w.heap.size + 2) ov ((l.take j).map (fun q : Parse => ((q.1, q.2.set (p.gr.toNat - 1) ((i : Int), (q.1 : Int))) : Parse))) x ∧ PAt w M s lines [.int .i64 p.op, .int .u64 p.set.a, .int .u64 p.set.b, .int .u64 p.set.c, .int .u64 p.set.d, .int .i64 p.lo, .int .i64 p.hi, .int .i64 p.gr, .slice (some ⟨bb, o, none⟩) 1 cap] (.int .i64 i) (.slice sa sp.length sc) x ∧ PsQ (fun b => ov.ownBlock ≠ some b) x _ l ∧ SpQ x (.slice a2 U.length c2) U ∧ w.heap.size + 3 ≤ x.heap.size)
        clear hR f11 h9
        simp only [e9]
        go_simp
        refine (padd_any x (w.heap.size + 2) ov ((l.take j).map (fun q : Parse => ((q.1, q.2.set (p.gr.toNat - 1) ((i : Int), (q.1 : Int))) : Parse))) true (u1, U) a2 c2 HX.out.1 HLT.out HX.out.2.2.2.1).mono ?_
        rintro e z ⟨rfl, ov', hz⟩
        rw [if_pos rfl, HTK.out] at hz
        refine ⟨_, rfl, hK _ _ ?_⟩
        clear hK
        unfold AfterC
        simp only [fill, dstOf, Act.put, List.getElem?_toArray, List.getElem?_cons_zero, List.getElem?_cons_succ, Option.bind_some, List.setIfInBounds_toArray, List.set_cons_zero, List.set_cons_succ, List.drop_succ_cons, List.drop_zero]
        refine Plan.nil (fun vs x hR2 hF => ?_)
        have f13 := hF 0 _ _ rfl
        clear hF
        simp only [f13]
        clear f13
        subst hR2
        simp only [List.drop_succ_cons, List.drop_nil]
        have HX3 := hid (⟨hz.1, HX.out.2.1.low (hz.low HX.out.1) (Nat.le_refl _) HMW.out, hz.ps HX.out.1 HX.out.2.2.1, Nat.le_trans HX.out.2.2.2.2 (hz.low HX.out.1).size⟩ : OutV _ _ _ z ∧ PAt w M s lines [.int .i64 p.op, .int .u64 p.set.a, .int .u64 p.set.b, .int .u64 p.set.c, .int .u64 p.set.d, .int .i64 p.lo, .int .i64 p.hi, .int .i64 p.gr, .slice (some ⟨bb, o, none⟩) 1 cap] (.int .i64 i) (.slice sa sp.length sc) z ∧ PsQ _ z _ _ ∧ _)
        clear hz HC
        go_wp2_with fail
        exact ⟨⟨j + 1, ov', by rw [Int.natCast_add]; rfl, hlt, hid ⟨HX3.out.1, HX3.out.2.1, HX3.out.2.2.1, HX3.out.2.2.2⟩⟩, by simp [intOf]; omega⟩
      · have hje : j = n := by omega
        have hltI : ¬ (j : Int) < (n : Int) := by omega
        have HTL : Hid ((l.take j).map (fun q : Parse => ((q.1, q.2.set (p.gr.toNat - 1) ((i : Int), (q.1 : Int))) : Parse)) = l.map (fun q : Parse => ((q.1, q.2.set (p.gr.toNat - 1) ((i : Int), (q.1 : Int))) : Parse))) := by show _ = _; rw [List.take_of_length_le (by have := HNN.out; omega)]
        have hml : (l.map (fun q : Parse => ((q.1, q.2.set (p.gr.toNat - 1) ((i : Int), (q.1 : Int))) : Parse))).length ≤ 200000 := by rw [List.length_map, ← HNN.out]; omega
        have hmk : ∀ q, q ∈ l.map (fun q : Parse => ((q.1, q.2.set (p.gr.toNat - 1) ((i : Int), (q.1 : Int))) : Parse)) → POk N s.size 0 q := fun q hq => by
          obtain ⟨q0, h1, rfl⟩ := List.mem_map.1 hq
          have h2 := HPK.out q0 h1
          exact ⟨Nat.zero_le _, h2.2.1, h2.2.2.put _ _ _ h2.1 h2.2.1⟩
        have HX4 := hid (⟨HX.out.1, HX.out.2.1⟩ : _ ∧ PAt w M s lines [.int .i64 p.op, .int .u64 p.set.a, .int .u64 p.set.b, .int .u64 p.set.c, .int .u64 p.set.d, .int .i64 p.lo, .int .i64 p.hi, .int .i64 p.gr, .slice (some ⟨bb, o, none⟩) 1 cap] (.int .i64 i) (.slice sa sp.length sc) wr)
        rw [HTL.out] at HX4
        have q3 := HX4.out.1.1.cell 0
        have HE := hid (pend_any w wr _ ov _ N s.size _ HX4.out.1 HX4.out.2.2.2.2 hml hmk hN hs HT.out HPA2.out)
        clear HX hml hmk hje
        go_wp2_with fail
        refine HE.out.mono ?_
        rintro e z2 ⟨hb2, h2⟩
        obtain ⟨r2, hr2⟩ : ∃ r2, r2 = parses s.data.toList lines (.mk p [x0]) i sp := ⟨_, rfl⟩
        rw [← hr2] at h2
        have HR2 := hid hr2
        clear hr2
        cases r2 with
        | none =>
          subst h2
          refine ⟨rfl, ?_⟩
          rw [← HR2.out]
          exact ⟨hb2, rfl⟩
        | some l2 =>
          obtain ⟨a2, c2, rfl, h2⟩ := h2
          have HR := hid (⟨hb2, h2⟩ : _ ∧ _)
          clear hb2 h2
          go_wp2_with fail
          go_ret
          rw [← HR2.out]
          exact ⟨HR.out.1, a2, c2, rfl, HR.out.2⟩
end Go.Proofs.YtkinnfejgpnddaaDoor

/- The program of layer 9: parses of an alternative. -/
namespace Go.Proofs.YtkinnfejgpnddaaDoor
open Go.RowKit
attribute [local go_sem] gives givesUpon givesPan givesUponP

-- def BX := [.int .i64 p.op, .int .u64 p.set.a, .int .u64 p.set.b, .int .u64 p.set.c, .int .u64 p.set.d, .int .i64 p.lo, .int .i64 p.hi, .int .i64 p.gr, .slice ad n cap]
-- def W3 := (((w.alloc (.cells #[.int .i64 p.op, .int .u64 p.set.a, .int .u64 p.set.b, .int .u64 p.set.c, .int .u64 p.set.d, .int .i64 p.lo, .int .i64 p.hi, .int .i64 p.gr, .slice ad n cap] 28)).alloc (.cells #[.int .i64 i, .slice sa sp.length sc] 48)).alloc (.cells #[.slice none 0 0] 33))
-- def CX := [.int .i64 p'.op, .int .u64 p'.set.a, .int .u64 p'.set.b, .int .u64 p'.set.c, .int .u64 p'.set.d, .int .i64 p'.lo, .int .i64 p'.hi, .int .i64 p'.gr, .slice ad' n' cap']
-- def WB := (wr.alloc (.cells #[.int .i64 p'.op, .int .u64 p'.set.a, .int .u64 p'.set.b, .int .u64 p'.set.c, .int .u64 p'.set.d, .int .i64 p'.lo, .int .i64 p'.hi, .int .i64 p'.gr, .slice ad' n' cap'] 28))
-- def FN := (*texttools/rematch.matcher).parses
-- def PP := PAt w M s lines [.int .i64 p.op, .int .u64 p.set.a, .int .u64 p.set.b, .int .u64 p.set.c, .int .u64 p.set.d, .int .i64 p.lo, .int .i64 p.hi, .int .i64 p.gr, .slice ad n cap] (.int .i64 i) (.slice sa sp.length sc)
/-- What the loop over alternatives keeps. -/
def AltK (s : ByteArray) (lines : Bool) (N i : Nat) (sp : Spans) (xs : List Re) (OB : Nat) (L : List Parse) (k : Nat) (ov : Value) (wr : World) : Prop :=
  altP s.data.toList lines (xs.take k) i sp = some L ∧ (L.length ≤ k * 4096 ∧ (∀ q, q ∈ L → POk N s.size i q)) ∧ OutV OB ov L wr
set_option maxRecDepth 100000 in
set_option maxHeartbeats 32000000 in
theorem ppar4 (wb : World) (N : Nat) (hN : N ≤ 9) (s : ByteArray) (hs : s.size ≤ 1000000) (lines : Bool) (p : Pay) (xs : List Re) (hop : p.op = 4) (HXS : ∀ x, x ∈ xs → PPar wb N s lines x) : PPar wb N s lines (.mk p xs) := by
  intro w cs M sa sc sp i hIn hok hsz hbw hM hsp hspo hi ht
  rw [Re.In] at hIn
  obtain ⟨ad, cap, rfl, hwf, -, -, -, hall⟩ := hIn
  simp only [Pay.cells]
  have hszx : Re.sizes xs ≤ 20 := by rw [Re.size_mk] at hsz; omega
  have hxl := sizes_len9 xs
  obtain ⟨n, hn⟩ : ∃ n, n = xs.length := ⟨_, rfl⟩
  have hn20 : n ≤ 20 := by omega
  have HNN := hid hn
  rw [← hn]
  have hP : PAt w M s lines [.int .i64 p.op, .int .u64 p.set.a, .int .u64 p.set.b, .int .u64 p.set.c, .int .u64 p.set.d, .int .i64 p.lo, .int .i64 p.hi, .int .i64 p.gr, .slice ad n cap] (.int .i64 i) (.slice sa sp.length sc) (((w.alloc (.cells #[.int .i64 p.op, .int .u64 p.set.a, .int .u64 p.set.b, .int .u64 p.set.c, .int .u64 p.set.d, .int .i64 p.lo, .int .i64 p.hi, .int .i64 p.gr, .slice ad n cap] 28)).alloc (.cells #[.int .i64 i, .slice sa sp.length sc] 48)).alloc (.cells #[.slice none 0 0] 33)) := ⟨((Row.new rfl).alloc _).alloc _, (Row.new (by simp)).alloc _, ((hM.alloc _).alloc _).alloc _, (((Below.refl _ _).alloc (Nat.le_refl _) _).alloc (by simp) _).alloc (by simp; omega) _⟩
  have hO : OutV (w.heap.size + 2) (.slice none 0 0) [] (((w.alloc (.cells #[.int .i64 p.op, .int .u64 p.set.a, .int .u64 p.set.b, .int .u64 p.set.c, .int .u64 p.set.d, .int .i64 p.lo, .int .i64 p.hi, .int .i64 p.gr, .slice ad n cap] 28)).alloc (.cells #[.int .i64 i, .slice sa sp.length sc] 48)).alloc (.cells #[.slice none 0 0] 33)) := ⟨Row.new (by simp), OwnP.nil _ _⟩
  have q0 := hP.1.c9
  have q1 := hP.2.2.1.two9
  have HP := hid (⟨hP, hO⟩ : _ ∧ _)
  have HT := hid ht
  have HO := hid hop
  have HMW := hid hM.lt
  have hsl : s.data.toList.length = s.size := by rw [Array.length_toList]; rfl
  rw [Re.ok] at hok
  have hoks := hok.2.2.2.2
  have HPA : Hid (parses s.data.toList lines (.mk p xs) i sp = (altP s.data.toList lines xs i sp).bind (fin s.size)) := by
    show _ = _; rw [parses]; simp only [hop, hsl]; rfl
  have HKID := hid (fun (x : World) (k : Nat) (hk : k < xs.length) (hx : Below w.heap.size w x) => hall.kid (hbw.trans (hx.mono hbw.size)) k hk)
  have HLEN := hid (fun (k : Nat) (hk : k < xs.length) l (h : parses s.data.toList lines xs[k] i sp = some l) => parses_len (Re.oks_get9 hoks k hk) (by rw [hsl]; exact hi) (by rw [hsl]; exact hspo) h)
  have hpok := fun (k : Nat) (hk : k < xs.length) l (h : parses s.data.toList lines xs[k] i sp = some l) => parses_ok s.data.toList lines N xs[k] i sp l (Re.oks_get9 hoks k hk) (by rw [hsl]; exact hi) (by rw [hsl]; exact hspo) h
  rw [hsl] at hpok
  have HPOK := hid hpok
  have HCH := hid (fun (x : World) (k : Nat) (hk : k < xs.length) (cs : List Value) (hin : Re.In wb xs[k] cs) (hx : Below w.heap.size w x) => HXS xs[k] (List.getElem_mem hk) x cs M sa sc sp i hin (Re.oks_get9 hoks k hk) (Nat.le_trans (size_kid9 xs k hk) hszx) (hbw.trans (hx.mono hbw.size)) (hM.below hx hM.lt) (hsp.of (fun _ _ hr => hr.below hx hr.lt)) hspo hi (ht.on hx))
  clear hP hO hall hok hsz hszx hbw hM hsp hspo ht hop hsl hxl hpok HXS hn hoks
  have e1 : (p.op == 1) = false := by rw [HO.out]; decide
  have e2 : (p.op == 2) = false := by rw [HO.out]; decide
  have e7 : (p.op == 7) = false := by rw [HO.out]; decide
  have e8 : (p.op == 8) = false := by rw [HO.out]; decide
  have e9 : (p.op == 9) = false := by rw [HO.out]; decide
  have e6 : (p.op == 6) = false := by rw [HO.out]; decide
  have e4 : (p.op == 4) = true := by rw [HO.out]; decide
  go_enter Tryd.func46, Tryd.ntmps46
  go_wp2_with fail
  clear q0 q1
  go_loopw [177] (fun v177 wr => ∃ (k : Nat) (L : List Parse) (ov : Value), v177 = .int .i64 k ∧ k ≤ n ∧ Hid (AltK s lines N i sp xs (w.heap.size + 2) L k ov wr ∧ PAt w M s lines [.int .i64 p.op, .int .u64 p.set.a, .int .u64 p.set.b, .int .u64 p.set.c, .int .u64 p.set.d, .int .i64 p.lo, .int .i64 p.hi, .int .i64 p.gr, .slice ad n cap] (.int .i64 i) (.slice sa sp.length sc) wr)) (fun v177 _ => n - (intOf v177).toNat)
  case atStart => exact ⟨0, [], _, rfl, Nat.zero_le _, ⟨by simp [altP], ⟨by simp, fun _ h => by cases h⟩, HP.out.2⟩, HP.out.1⟩
  case round =>
    obtain ⟨k, L, ov, rfl, hk, HX⟩ := hrel
    by_cases hlt : k < n
    · have hltI : (k : Int) < (n : Int) := by omega
      have hkx : k < xs.length := by have := HNN.out; omega
      obtain ⟨bb, o, p', ad', n', cap', e3, HXC, HXI, hbb⟩ := HKID.out wr k hkx HX.out.2.2.2.2
      subst e3
      have hal : Below wr.heap.size wr (wr.alloc (.cells #[.int .i64 p'.op, .int .u64 p'.set.a, .int .u64 p'.set.b, .int .u64 p'.set.c, .int .u64 p'.set.d, .int .i64 p'.lo, .int .i64 p'.hi, .int .i64 p'.gr, .slice ad' n' cap'] 28)) := (Below.refl _ _).alloc (Nat.le_refl _) _
      have HY := hid (⟨HX.out.1.2.2.below hal, HX.out.2.later hal, Row.new (w := wr) (cs := [.int .i64 p'.op, .int .u64 p'.set.a, .int .u64 p'.set.b, .int .u64 p'.set.c, .int .u64 p'.set.d, .int .i64 p'.lo, .int .i64 p'.hi, .int .i64 p'.gr, .slice ad' n' cap']) (T := 28) rfl⟩ : OutV (w.heap.size + 2) ov L (wr.alloc (.cells #[.int .i64 p'.op, .int .u64 p'.set.a, .int .u64 p'.set.b, .int .u64 p'.set.c, .int .u64 p'.set.d, .int .i64 p'.lo, .int .i64 p'.hi, .int .i64 p'.gr, .slice ad' n' cap'] 28)) ∧ PAt w M s lines _ (.int .i64 i) (.slice sa sp.length sc) (wr.alloc (.cells #[.int .i64 p'.op, .int .u64 p'.set.a, .int .u64 p'.set.b, .int .u64 p'.set.c, .int .u64 p'.set.d, .int .i64 p'.lo, .int .i64 p'.hi, .int .i64 p'.gr, .slice ad' n' cap'] 28)) ∧ Row (wr.alloc (.cells #[.int .i64 p'.op, .int .u64 p'.set.a, .int .u64 p'.set.b, .int .u64 p'.set.c, .int .u64 p'.set.d, .int .i64 p'.lo, .int .i64 p'.hi, .int .i64 p'.gr, .slice ad' n' cap'] 28)) wr.heap.size _ _)
      have HC := hid (fun (x : World) (hx : Grow ((wr.alloc (.cells #[.int .i64 p'.op, .int .u64 p'.set.a, .int .u64 p'.set.b, .int .u64 p'.set.c, .int .u64 p'.set.d, .int .i64 p'.lo, .int .i64 p'.hi, .int .i64 p'.gr, .slice ad' n' cap'] 28))).drew x) => (⟨(HY.out.2.2.grow hx).c9, (HY.out.1.below (grow_below hx)).1.cell 0⟩ : _ ∧ _))
      have HCK := hid (fun (x : World) (hx : Below wr.heap.size wr x) => HCH.out x k hkx _ HXI.out (HX.out.2.2.2.2.trans (hx.mono HX.out.2.2.2.2.size)))
      have HSTEP := hid (fun l (h : parses s.data.toList lines xs[k] i sp = some l) => altP_step s.data.toList lines hkx HX.out.1.1 h)
      have HNONE := hid (fun (h : parses s.data.toList lines xs[k] i sp = none) => altP_none s.data.toList lines hkx h)
      have HPO := hid (HPOK.out k hkx)
      have HLE := hid (HLEN.out k hkx)
      have HWR := hid hal
      obtain ⟨r, hr⟩ : ∃ r, r = parses s.data.toList lines xs[k] i sp := ⟨_, rfl⟩
      rw [← hr] at HCK HSTEP HNONE HPO HLE
      clear hr hal
      go_upto_region 28 with (with_reducible (refine wpList_load_agg rfl 28 _ rfl bb (o + k * 9) rfl _ _ HXC.out Tryd.underlying28 rfl (size_re9 _ _ _ _ _ _ _ _ _) ?_))
      cases r with
      | none =>
        refine wp_region_pan 5 (Grow) (by kernel_rfl) (by kernel_rfl) (Grow.refl) (fun _ _ _ => Grow.trans) ?_
        simp only [fill, dstOf, Act.put, List.take_succ_cons, List.take_zero, List.getElem?_toArray, List.getElem?_cons_zero, List.getElem?_cons_succ, Option.bind_some, List.setIfInBounds_toArray, List.set_cons_zero, List.set_cons_succ]
        refine PlanP.det 1 rfl (Grow.refl) ?_
        apply Exists.intro
        refine ⟨fun vs x hR hF K hK => ?_, ?_⟩
        · have hc := HC.out x hR; clear hF
          go_simp
          exact hK _ _ (Grow.refl _) rfl
        refine PlanP.det 2 rfl (Grow.refl) ?_
        apply Exists.intro
        refine ⟨fun vs x hR hF K hK => ?_, ?_⟩
        · clear hF
          go_simp
          exact hK _ _ (Grow.refl _) rfl
        refine PlanP.det 3 rfl (Grow.refl) ?_
        apply Exists.intro
        refine ⟨fun vs x hR hF K hK => ?_, ?_⟩
        · have hc := HC.out x hR; clear hF
          go_simp
          exact hK _ _ (Grow.refl _) rfl
        refine PlanP.det 4 rfl (Grow.refl) ?_
        apply Exists.intro
        refine ⟨fun vs x hR hF K hK => ?_, ?_⟩
        · clear hF
          go_simp
          exact hK _ _ (Grow.refl _) rfl
        refine PlanP.det 5 rfl (Grow.refl) ?_
        apply Exists.intro
        refine ⟨fun vs x hR hF K hK => ?_, ?_⟩
        · clear hF
          go_simp
          exact hK _ _ (Grow.refl _) rfl
        refine PlanP.nil (fun vs x hR hF => ?_)
        have f1 := hF 3 _ _ rfl rfl; have f2 := hF 2 _ _ rfl rfl; have f3 := hF 1 _ _ rfl rfl; have f4 := hF 0 _ _ rfl rfl
        clear hF
        intro oo hoo KQ hK
        obtain rfl := Option.some.inj hoo
        clear hoo
        simp only [f1, f2, f3, f4]
        clear f1 f2 f3 f4
        go_simp
        refine (HCK.out x (HWR.out.trans ((grow_below hR).mono HWR.out.size))).mono ?_
        rintro e z ⟨hb2, rfl⟩
        refine ⟨_, rfl, hK _ _ fun A hA => ?_⟩
        clear hK
        refine And.intro hA ?_
        show ParP w _ (.panicked exh) z
        rw [HPA.out, HNONE.out rfl]
        exact ⟨HX.out.2.2.2.2.trans ((HWR.out.trans ((grow_below hR).mono HWR.out.size) |>.trans (hb2.mono (HWR.out.trans ((grow_below hR).mono HWR.out.size)).size)).mono HX.out.2.2.2.2.size), rfl⟩
      | some l =>
        refine wp_region_inv 6 (Grow) (by kernel_rfl) (by kernel_rfl) (Grow.refl) (fun _ _ _ => Grow.trans) ?_
        simp only [fill, dstOf, Act.put, List.take_succ_cons, List.take_zero, List.getElem?_toArray, List.getElem?_cons_zero, List.getElem?_cons_succ, Option.bind_some, List.setIfInBounds_toArray, List.set_cons_zero, List.set_cons_succ]
        refine Plan.det 1 rfl (Grow.refl) ?_
        apply Exists.intro
        refine ⟨fun vs x hR hF K hK => ?_, ?_⟩
        · have hc := HC.out x hR; clear hF
          go_simp
          exact hK _ _ (Grow.refl _) rfl
        refine Plan.det 2 rfl (Grow.refl) ?_
        apply Exists.intro
        refine ⟨fun vs x hR hF K hK => ?_, ?_⟩
        · clear hF
          go_simp
          exact hK _ _ (Grow.refl _) rfl
        refine Plan.det 3 rfl (Grow.refl) ?_
        apply Exists.intro
        refine ⟨fun vs x hR hF K hK => ?_, ?_⟩
        · have hc := HC.out x hR; clear hF
          go_simp
          exact hK _ _ (Grow.refl _) rfl
        refine Plan.det 4 rfl (Grow.refl) ?_
        apply Exists.intro
        refine ⟨fun vs x hR hF K hK => ?_, ?_⟩
        · clear hF
          go_simp
          exact hK _ _ (Grow.refl _) rfl
        refine Plan.det 5 rfl (Grow.refl) ?_
        apply Exists.intro
        refine ⟨fun vs x hR hF K hK => ?_, ?_⟩
        · clear hF
          go_simp
          exact hK _ _ (Grow.refl _) rfl
        refine Plan.rel 6 rfl (Grow.refl) (fun v y => ∃ (a2 : Option Addr) (c2 : Nat), v = .slice a2 l.length c2 ∧ PsQ (wr.heap.size ≤ ·) y (.slice a2 l.length c2) l) (fun v y1 y2 hR ⟨a2, c2, h1, h2⟩ => ⟨a2, c2, h1, h2.below hR⟩) (fun vs x hR hF K hK => ?_) ?_
        · have f1 := hF 3 _ _ rfl rfl; have f2 := hF 2 _ _ rfl rfl; have f3 := hF 1 _ _ rfl rfl; have f4 := hF 0 _ _ rfl rfl
          go_simp
          refine (HCK.out x (HWR.out.trans ((grow_below hR).mono HWR.out.size))).mono ?_
          rintro e x1 ⟨hbe, a2, c2, rfl, h1⟩
          exact ⟨_, rfl, hK _ _ hbe ⟨a2, c2, rfl, h1.mono (fun b _ hb => Nat.le_trans (HWR.out.trans ((grow_below hR).mono HWR.out.size)).size hb)⟩⟩
        refine Plan.nil (fun vs x hR hF => ?_)
        have f0 := hF 5 _ _ rfl; have f1 := hF 4 _ _ rfl; have f2 := hF 3 _ _ rfl; have f3 := hF 2 _ _ rfl; have f4 := hF 1 _ _ rfl; have f5 := hF 0 _ _ rfl
        clear hF
        simp only [f0, f1, f2, f3, f4]
        clear f0 f1 f2 f3 f4
        simp only [List.drop_succ_cons, List.drop_zero]
        obtain ⟨a5, c5, e5, h5⟩ := f5
        have HXB := hid (grow_below hR)
        have HOX := hid (HY.out.1.below HXB.out)
        have HPX := hid (HY.out.2.1.later HXB.out)
        have hl4 := HLE.out l rfl
        have HPS := hid h5
        have HLL : Hid (L.length + l.length ≤ 1000000) := by have := HX.out.1.2.1.1; show _ ≤ _; omega
        simp only [e5]
        clear h5 HC hR HLE HCK
        at_builtin
        refine wpList_append_ps rfl _ _ rfl (w.heap.size + 3) _ L l _ _ rfl HOX.out.2 rfl HPS.out HLL.out (by have := HPX.out.2.2.2.size; have h9 := HOX.out.1.lt; omega) ?_
        intro a' n9 c' w3 hn9 hown hg hnew
        have hX3 : Row w3 (w.heap.size + 2) [ov] 33 := by
          obtain ⟨_, Lo, o1, o2, o3⟩ := HOX.out.2
          exact HOX.out.1.grownOwn o3 (by decide) hg
        have q3 := hX3.cell 0
        have f3 := hX3.free 0
        have hp := HOX.out.put hown hg hnew rfl
        have HX3 := hid (⟨hp.1, HPX.out.low (hp.low HOX.out) (Nat.le_refl _) HMW.out⟩ : OutV _ _ _ _ ∧ PAt w M s lines _ (.int .i64 i) (.slice sa sp.length sc) _)
        have HLA := hid (HSTEP.out l rfl)
        have HLB : Hid ((L ++ l).length ≤ (k + 1) * 4096 ∧ ∀ q, q ∈ L ++ l → POk N s.size i q) := ⟨by have := HX.out.1.2.1.1; rw [List.length_append]; omega, fun q hq => by
          rcases List.mem_append.1 hq with h | h
          · exact HX.out.1.2.1.2 q h
          · exact HPO.out l rfl q h⟩
        clear hn9 hown hg hnew hX3 hp
        go_wp2_with fail
        exact ⟨⟨k + 1, L ++ l, _, by rw [Int.natCast_add]; rfl, hlt, hid ⟨⟨HLA.out, HLB.out, HX3.out.1⟩, HX3.out.2⟩⟩, by simp [intOf]; omega⟩
    · have hke : k = n := by omega
      have hltI : ¬ (k : Int) < (n : Int) := by omega
      have hAL : altP s.data.toList lines xs i sp = some L := by have h := HX.out.1.1; rwa [List.take_of_length_le (by have := HNN.out; omega)] at h
      have HPA2 : Hid (fin s.size L = parses s.data.toList lines (.mk p xs) i sp) := by show _ = _; rw [HPA.out, hAL]; rfl
      have hml : L.length ≤ 200000 := by have := HX.out.1.2.1.1; omega
      have hmk : ∀ q, q ∈ L → POk N s.size 0 q := fun q hq => by
        have h2 := HX.out.1.2.1.2 q hq
        exact ⟨Nat.zero_le _, h2.2.1, h2.2.2⟩
      have q3 := HX.out.1.2.2.1.cell 0
      have HE := hid (pend_any w wr _ ov _ N s.size _ HX.out.1.2.2 HX.out.2.2.2.2 hml hmk hN hs HT.out HPA2.out)
      clear HX hml hmk hke hAL
      go_wp2_with fail
      refine HE.out.mono ?_
      rintro e z2 ⟨hb2, h2⟩
      obtain ⟨r2, hr2⟩ : ∃ r2, r2 = parses s.data.toList lines (.mk p xs) i sp := ⟨_, rfl⟩
      rw [← hr2] at h2
      have HR2 := hid hr2
      clear hr2
      cases r2 with
      | none =>
        subst h2
        refine ⟨rfl, ?_⟩
        rw [← HR2.out]
        exact ⟨hb2, rfl⟩
      | some l2 =>
        obtain ⟨a2, c2, rfl, h2⟩ := h2
        have HR := hid (⟨hb2, h2⟩ : _ ∧ _)
        clear hb2 h2
        go_wp2_with fail
        go_ret
        rw [← HR2.out]
        exact ⟨HR.out.1, a2, c2, rfl, HR.out.2⟩
end Go.Proofs.YtkinnfejgpnddaaDoor
