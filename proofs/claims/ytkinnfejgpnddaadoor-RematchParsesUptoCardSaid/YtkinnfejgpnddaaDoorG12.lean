/- The reference of the parses: a group. -/
import Derived.Test.YtkinnfejgpnddaaDoorG11
namespace Go.Proofs.YtkinnfejgpnddaaDoor
open Go.RowKit
attribute [local go_sem] gives givesUpon

-- def BL := [.int .i64 p.op, .int .u64 p.set.a, .int .u64 p.set.b, .int .u64 p.set.c, .int .u64 p.set.d, .int .i64 p.lo, .int .i64 p.hi, .int .i64 p.gr, .slice (some ⟨bb, o, none⟩) 1 cap]
-- def TX := [.string s, .bool lines]
-- def W2 := ((w.alloc (.cells #[.string s, .bool lines] 70)).alloc (.cells #[.int .i64 p.op, .int .u64 p.set.a, .int .u64 p.set.b, .int .u64 p.set.c, .int .u64 p.set.d, .int .i64 p.lo, .int .i64 p.hi, .int .i64 p.gr, .slice (some ⟨bb, o, none⟩) 1 cap] 28))
-- def FN := (texttools/texttoolsref09.text).parses
theorem rwith_int (w : World) (sv : Value) (sp : Spans) (gr : Int) (i k : Int) (hsp : SpQ w sv sp) (hl : sp.length ≤ 9) (hg : 1 ≤ gr ∧ gr ≤ 9) :
    Calls Tryd.prog 51 #[sv, .int .i64 gr, .int .i64 i, .int .i64 k] w fun e w' => ∃ a c, e = .returned (.slice a sp.length c) ∧ Below w.heap.size w w' ∧ SpQ w' (.slice a sp.length c) (sp.set (gr.toNat - 1) (i, k)) := by
  obtain ⟨g, rfl⟩ : ∃ g : Nat, gr = g := ⟨gr.toNat, by omega⟩
  have := rwith_any w sv sp g i k hsp hl (by omega)
  simpa using this
theorem Two.text {w : World} {s : ByteArray} {lines : Bool} {BXL : List Value} {x : World} (h : Two w s lines BXL x) : x.cell? ⟨w.heap.size, 0, none⟩ = some (.string s) ∧ x.cell? ⟨w.heap.size, 1, none⟩ = some (.bool lines) := h.1.two9
/-- What the loop over a group's parses keeps. -/
def GrpL (w : World) (s : ByteArray) (lines : Bool) (BXL : List Value) (l : List Parse) (a : Option Addr) (m c : Nat) (wr : World) : Prop :=
  m = (nub l).length ∧ OwnP wr w.heap.size (.slice a m c) (nub l) ∧ Two w s lines BXL wr
/-- After an append to what the call owns. -/
theorem Two.grown {w : World} {s : ByteArray} {lines : Bool} {BXL : List Value} {x y : World} {v : Value} {l : List Parse} (h : Two w s lines BXL x) (ho : OwnP x w.heap.size v l) (hg : x.grownBy y v.ownBlock) : Two w s lines BXL y := by
  obtain ⟨_, L, h1, h2, h3⟩ := ho
  exact ⟨h.1.grownOwn h3 (by decide) hg, h.2.1.grownOwn h3 (by decide) hg, h.2.2.grown hg h.2.2.size fun g hgg => (World.ownsRow.lt h3 g hgg).1⟩
theorem PsQ.grown {p q : Nat → Prop} {x y : World} {v : Value} {l m : List Parse} {u : Value} {base : Nat} (h : PsQ p x u m) (ho : OwnP x base v l) (hg : x.grownBy y v.ownBlock) (hp : ∀ b, b < x.heap.size → p b → v.ownBlock ≠ some b ∧ q b) : PsQ q y u m := by
  obtain ⟨_, L, h1, h2, h3⟩ := ho
  exact h.of (fun b cs hr => hr.grownOwn h3 (by decide) hg) fun b cs hpb hr => ⟨(hg.block b hr.lt (fun e => (hp b hr.lt hpb).1 e.symm)).trans hr, (hp b hr.lt hpb).2⟩
set_option maxRecDepth 100000 in
set_option maxHeartbeats 16000000 in
theorem rpar6 (wb : World) (N : Nat) (hN : N ≤ 9) (s : ByteArray) (hs : s.size ≤ 1000000) (lines : Bool) (p : Pay) (x0 : Re) (hop : p.op = 6) (HX0 : RPar wb N s lines x0) : RPar wb N s lines (.mk p [x0]) := by
  intro w cs sa sc sp i hIn hok hsz hbw hsp hspo hi
  have hIn2 := hIn
  rw [Re.In] at hIn
  obtain ⟨ad, cap, rfl, hwf, -, -, -, hall⟩ := hIn
  obtain ⟨bb, o, cs0, hq1, hq2, hq3⟩ := hall.get 0 x0 (by simp)
  have hk := hall.kid hbw 0 (by simp)
  obtain ⟨bb', o', p', ad', n', cap', e', HXC, HXI, hbb⟩ := hk
  rw [hq1] at e'
  injection e' with e'
  injection e' with e1 e2
  subst e1; subst e2; subst hq1
  simp only [Pay.cells]
  have hT : Two w s lines [.int .i64 p.op, .int .u64 p.set.a, .int .u64 p.set.b, .int .u64 p.set.c, .int .u64 p.set.d, .int .i64 p.lo, .int .i64 p.hi, .int .i64 p.gr, .slice (some ⟨bb, o, none⟩) 1 cap] ((w.alloc (.cells #[.string s, .bool lines] 70)).alloc (.cells #[.int .i64 p.op, .int .u64 p.set.a, .int .u64 p.set.b, .int .u64 p.set.c, .int .u64 p.set.d, .int .i64 p.lo, .int .i64 p.hi, .int .i64 p.gr, .slice (some ⟨bb, o, none⟩) 1 cap] 28)) := ⟨(Row.new rfl).alloc _, Row.new (by simp), ((Below.refl _ _).alloc (Nat.le_refl _) _).alloc (by simp) _⟩
  have HT := hid hT
  have HS := hid (hsp.below hT.2.2)
  have q0 := hT.1.two9
  have q1 := hT.2.1.c9
  have HSO := hid hspo
  have HO := hid hop
  have HBW := hid hbw
  have hsl : s.data.toList.length = s.size := by rw [Array.length_toList]; rfl
  have HSL := hid hsl
  have hok2 := hok
  rw [Re.ok, Re.oks] at hok
  have hgr := hok.2.2.2.1 (.inl hop)
  have hg9 : 1 ≤ p.gr ∧ p.gr ≤ 9 := by omega
  have hspl : sp.length ≤ 9 := by have := hspo.1; omega
  have hszz : x0.size ≤ 20 := by rw [Re.size_mk] at hsz; have h1 : Re.sizes [x0] = x0.size + 0 := rfl; omega
  have HPA : Hid (parses s.data.toList lines (.mk p [x0]) i sp = (parses s.data.toList lines x0 i sp).bind fun l => fin s.size (l.map fun q => (q.1, q.2.set (p.gr.toNat - 1) ((i : Int), (q.1 : Int))))) := by
    show _ = _; rw [parses]; simp only [hop, firstP, hsl]; rfl
  have hlen0 := fun l (h : parses s.data.toList lines x0 i sp = some l) => parses_len hok.2.2.2.2.1 (by rw [hsl]; exact hi) (by rw [hsl]; exact hspo) h
  have hpok := fun l (h : parses s.data.toList lines x0 i sp = some l) => parses_ok s.data.toList lines N x0 i sp l hok.2.2.2.2.1 (by rw [hsl]; exact hi) (by rw [hsl]; exact hspo) h
  rw [hsl] at hpok
  have HLEN := hid hlen0
  have HPOK := hid hpok
  have HCH := hid (fun (x : World) (hx : Below (((w.alloc (.cells #[.string s, .bool lines] 70)).alloc (.cells #[.int .i64 p.op, .int .u64 p.set.a, .int .u64 p.set.b, .int .u64 p.set.c, .int .u64 p.set.d, .int .i64 p.lo, .int .i64 p.hi, .int .i64 p.gr, .slice (some ⟨bb, o, none⟩) 1 cap] 28))).heap.size ((w.alloc (.cells #[.string s, .bool lines] 70)).alloc (.cells #[.int .i64 p.op, .int .u64 p.set.a, .int .u64 p.set.b, .int .u64 p.set.c, .int .u64 p.set.d, .int .i64 p.lo, .int .i64 p.hi, .int .i64 p.gr, .slice (some ⟨bb, o, none⟩) 1 cap] 28)) x) => HX0 x _ sa sc sp i HXI.out hok.2.2.2.2.1 hszz (hbw.trans ((hT.2.2.trans (hx.mono hT.2.2.size)).mono hbw.size)) ((hsp.below hT.2.2).below hx) hspo hi)
  have HX1 := hid (fun (x : World) (hx : Grow (((w.alloc (.cells #[.string s, .bool lines] 70)).alloc (.cells #[.int .i64 p.op, .int .u64 p.set.a, .int .u64 p.set.b, .int .u64 p.set.c, .int .u64 p.set.d, .int .i64 p.lo, .int .i64 p.hi, .int .i64 p.gr, .slice (some ⟨bb, o, none⟩) 1 cap] 28))).drew x) => HXC.out.below (hT.2.2.trans ((grow_below hx).mono hT.2.2.size)))
  have HC := hid (fun (x : World) (hx : Grow (((w.alloc (.cells #[.string s, .bool lines] 70)).alloc (.cells #[.int .i64 p.op, .int .u64 p.set.a, .int .u64 p.set.b, .int .u64 p.set.c, .int .u64 p.set.d, .int .i64 p.lo, .int .i64 p.hi, .int .i64 p.gr, .slice (some ⟨bb, o, none⟩) 1 cap] 28))).drew x) => (⟨(HT.out.later (grow_below hx)).text, ((HT.out.later (grow_below hx)).2.1).c9⟩ : _ ∧ _))
  clear hT hsp hspo hsl hok hok2 hwf hgr hbw hall hIn2 hlen0 hpok
  have e1 : (p.op == 1) = false := by rw [HO.out]; decide
  have e2 : (p.op == 2) = false := by rw [HO.out]; decide
  have e7 : (p.op == 7) = false := by rw [HO.out]; decide
  have e8 : (p.op == 8) = false := by rw [HO.out]; decide
  have e9 : (p.op == 9) = false := by rw [HO.out]; decide
  have e6 : (p.op == 6) = true := by rw [HO.out]; decide
  clear hop
  obtain ⟨r, hr⟩ : ∃ r, r = parses s.data.toList lines x0 i sp := ⟨_, rfl⟩
  rw [← hr] at HCH HPA HLEN HPOK
  clear hr
  go_enter Tryd.func34, Tryd.ntmps34
  go_wp2_with fail
  refine wp_region_two 7 13 rfl (Grow) (by kernel_rfl) (by kernel_rfl) (Grow.refl) (fun _ _ _ => Grow.trans) ?_
  simp only [fill, dstOf, Act.put, List.take_succ_cons, List.take_zero, List.getElem?_toArray, List.getElem?_cons_zero, List.getElem?_cons_succ, Option.bind_some, List.setIfInBounds_toArray, List.set_cons_zero, List.set_cons_succ]
  refine Plan.det 1 rfl (Grow.refl) ?_
  apply Exists.intro
  refine ⟨fun vs x hR hF K hK => ?_, ?_⟩
  · have hc := HC.out x hR; clear hF
    go_simp
    exact hK _ _ (Grow.refl _) rfl
  refine Plan.det 2 rfl (Grow.refl) ?_
  apply Exists.intro
  refine ⟨fun vs x hR hF K hK => ?_, ?_⟩
  · clear hF
    go_simp
    exact hK _ _ (Grow.refl _) rfl
  refine Plan.det 3 rfl (Grow.refl) ?_
  apply Exists.intro
  refine ⟨fun vs x hR hF K hK => ?_, ?_⟩
  · have f1 := hF 0 _ _ rfl rfl; have hc := HC.out x hR; clear hF
    go_simp
    exact hK _ _ (Grow.refl _) rfl
  refine Plan.det 4 rfl (Grow.refl) ?_
  apply Exists.intro
  refine ⟨fun vs x hR hF K hK => ?_, ?_⟩
  · have f2 := hF 0 _ _ rfl rfl; clear hF
    go_simp
    exact hK _ _ (Grow.refl _) rfl
  refine Plan.det 5 rfl (Grow.refl) ?_
  apply Exists.intro
  refine ⟨fun vs x hR hF K hK => ?_, ?_⟩
  · have f3 := hF 0 _ _ rfl rfl; have hc := HC.out x hR; clear hF
    rw [if_pos (show Region.wanted _ _ = true from rfl)]
    refine gives_load_agg 28 _ rfl bb o f3 _ _ (HX1.out _ hR) Tryd.underlying28 rfl (size_re9 _ _ _ _ _ _ _ _ _) ?_
    exact hK _ _ (Grow.refl _) rfl
  refine Plan.det 6 rfl (Grow.refl) ?_
  apply Exists.intro
  refine ⟨fun vs x hR hF K hK => ?_, ?_⟩
  · clear hF
    go_simp
    exact hK _ _ (Grow.refl _) rfl
  refine Plan.det 7 rfl (Grow.refl) ?_
  apply Exists.intro
  refine ⟨fun vs x hR hF K hK => ?_, ?_⟩
  · clear hF
    go_simp
    exact hK _ _ (Grow.refl _) rfl
  refine PlanEnd (by simp) (fun vs x hR hF => ?_)
  have f0 := hF 6 _ _ rfl; have f1 := hF 5 _ _ rfl; have f2 := hF 4 _ _ rfl; have f3 := hF 3 _ _ rfl; have f4 := hF 2 _ _ rfl; have f5 := hF 1 _ _ rfl; have f6 := hF 0 _ _ rfl
  clear hF
  simp only [f0, f1, f2, f3, f4, f5, f6]
  clear f0 f1 f2 f3 f4 f5 f6
  intro oo hoo KQ hK
  obtain rfl := Option.some.inj hoo
  clear hoo
  have HBX := hid (grow_below hR)
  clear HX1 hR
  go_simp
  refine (HCH.out _ HBX.out).mono ?_
  rintro e w' ⟨a9, l9, c9, rfl, hb9, h9, h9n⟩
  have HT9 := hid (HT.out.later (HBX.out.trans (hb9.mono HBX.out.size)))
  have HR9 := hid (And.intro h9 h9n)
  have hz9' := HBX.out.size
  clear hb9 h9 h9n
  refine ⟨_, rfl, hK _ _ ?_⟩
  clear hK
  unfold AfterC
  simp only [fill, dstOf, Act.put, List.getElem?_toArray, List.getElem?_cons_zero, List.getElem?_cons_succ, Option.bind_some, List.setIfInBounds_toArray, List.set_cons_zero, List.set_cons_succ, List.drop_succ_cons, List.drop_zero]
  refine Plan.det 9 rfl (fun _ => rfl) ?_
  apply Exists.intro
  refine ⟨fun vs x hR hF K hK => ?_, ?_⟩
  · have f7 := hF 0 _ _ rfl rfl; clear hF
    go_simp
    exact hK _ _ rfl rfl
  refine Plan.det 10 rfl (fun _ => rfl) ?_
  apply Exists.intro
  refine ⟨fun vs x hR hF K hK => ?_, ?_⟩
  · have f8 := hF 0 _ _ rfl rfl; clear hF
    go_simp
    exact hK _ _ rfl rfl
  refine Plan.det 11 rfl (fun _ => rfl) ?_
  apply Exists.intro
  refine ⟨fun vs x hR hF K hK => ?_, ?_⟩
  · have f8 := hF 1 _ _ rfl rfl; clear hF
    go_simp
    exact hK _ _ rfl rfl
  refine Plan.det 12 rfl (fun _ => rfl) ?_
  apply Exists.intro
  refine ⟨fun vs x hR hF K hK => ?_, ?_⟩
  · have f7 := hF 3 _ _ rfl rfl; have f8 := hF 2 _ _ rfl rfl; have f9 := hF 1 _ _ rfl rfl; clear hF
    go_simp
    exact hK _ _ rfl rfl
  refine Plan.det 13 rfl (fun _ => rfl) ?_
  apply Exists.intro
  refine ⟨fun vs x hR hF K hK => ?_, ?_⟩
  · have f7 := hF 4 _ _ rfl rfl; have f8 := hF 3 _ _ rfl rfl; have f9 := hF 2 _ _ rfl rfl; have f10 := hF 1 _ _ rfl rfl; have f11 := hF 0 _ _ rfl rfl; clear hF
    go_simp
    exact hK _ _ rfl rfl
  refine Plan.nil (fun vs x hR2 hF => ?_)
  have f7 := hF 5 _ _ rfl; have f8 := hF 4 _ _ rfl; have f9 := hF 3 _ _ rfl; have f10 := hF 2 _ _ rfl; have f11 := hF 1 _ _ rfl; have f12 := hF 0 _ _ rfl
  clear hF
  simp only [f7, f8, f9, f10, f11, f12]
  clear f7 f8 f9 f10 f11 f12
  subst hR2
  simp only [List.drop_succ_cons, List.drop_nil]
  clear HC q0 q1 HBX HCH
  cases r with
  | none =>
    obtain ⟨rfl, rfl, rfl⟩ := HR9.out.2 rfl
    simp only [Option.isSome_none]
    go_wp2_with fail
    go_ret2
    exact ⟨none, 0, 0, by rw [HPA.out]; rfl, HT9.out.2.2, fun l hl => (by rw [HPA.out] at hl; cases hl), fun _ => ⟨rfl, rfl, rfl⟩⟩
  | some l =>
    obtain ⟨rfl, hps⟩ := HR9.out.1 l rfl
    have hl4 := HLEN.out l rfl
    have HPS := hid hps
    obtain ⟨n, hnn⟩ : ∃ n, n = l.length := ⟨_, rfl⟩
    have HNN := hid hnn
    rw [← hnn] at HPS hl4 ⊢
    clear hps hnn HR9 HLEN
    simp only [Option.isSome_some]
    go_wp2_with fail
    go_loopw [10, 14] (fun v10 v14 wr => ∃ (j : Nat) (a : Option Addr) (m c : Nat), v10 = .slice a m c ∧ v14 = .int .i64 j ∧ j ≤ n ∧ Hid (GrpL w s lines [.int .i64 p.op, .int .u64 p.set.a, .int .u64 p.set.b, .int .u64 p.set.c, .int .u64 p.set.d, .int .i64 p.lo, .int .i64 p.hi, .int .i64 p.gr, .slice (some ⟨bb, o, none⟩) 1 cap] ((l.take j).map (fun q : Parse => (q.1, q.2.set (p.gr.toNat - 1) ((i : Int), (q.1 : Int))))) a m c wr ∧ PsQ (fun b => (Value.slice a m c).ownBlock ≠ some b) wr (.slice a9 n c9) l)) (fun _ v14 _ => n - (intOf v14).toNat)
    case atStart =>
      exact ⟨0, none, 0, 0, rfl, rfl, Nat.zero_le _, ⟨rfl, OwnP.nil _ _, HT9.out⟩, HPS.out.mono fun b _ hb => by simp [Value.ownBlock]⟩
    case round =>
      obtain ⟨j, a, m, c, rfl, rfl, hj, HX⟩ := hrel
      obtain ⟨⟨h0, h1, h2⟩, h3⟩ := HX.out
      have q0 := h2.text
      have q1 := h2.2.1.c9
      by_cases hlt : j < n
      · have hltI : (j : Int) < (n : Int) := by omega
        obtain ⟨b, cc, u1, u2, ua, uc, hq, ev, hb, hbp, -, p0, p1, hsq⟩ := h3.get (k := j) (by have := HNN.out; omega)
        injection ev with e1 e2 e3
        subst e1; subst e3
        clear e2
        have hmem : (u1, u2) ∈ l := List.mem_of_getElem? hq
        have hpk := HPOK.out l rfl (u1, u2) hmem
        have hu1 : u1 ≤ s.size := hpk.2.1
        have hul : u2.length ≤ 9 := by have := hpk.2.2.1; dsimp only at this; omega
        have HG := hid (⟨h0, h1, h2, h3⟩ : _ ∧ _ ∧ _ ∧ _)
        have HSQ := hid hsq
        have hml : m ≤ 100000 := by
          have := nub_le ((l.take j).map (fun q : Parse => (q.1, q.2.set (p.gr.toNat - 1) ((i : Int), (q.1 : Int)))))
          rw [List.length_map, List.length_take] at this
          omega
        have HALL : Hid (∀ q, q ∈ (u1, u2.set (p.gr.toNat - 1) ((i : Int), (u1 : Int))) :: nub ((l.take j).map (fun q : Parse => (q.1, q.2.set (p.gr.toNat - 1) ((i : Int), (q.1 : Int))))) → q.2.length ≤ 9 ∧ q.1 ≤ 1000000) := by
          intro q hq
          rcases List.mem_cons.1 hq with rfl | hq
          · exact ⟨by rw [List.length_set]; exact hul, by show u1 ≤ _; omega⟩
          · obtain ⟨q0, hq0, rfl⟩ := List.mem_map.1 (nub_mem.1 hq)
            have h4 := HPOK.out l rfl q0 (List.mem_of_mem_take hq0)
            have h5 := h4.2.1
            have h6 := h4.2.2.1
            exact ⟨by rw [List.length_set]; omega, by show q0.1 ≤ _; omega⟩
        have HST : Hid (addP (nub ((l.take j).map (fun q : Parse => (q.1, q.2.set (p.gr.toNat - 1) ((i : Int), (q.1 : Int)))))) (u1, u2.set (p.gr.toNat - 1) ((i : Int), (u1 : Int))) = nub ((l.take (j + 1)).map (fun q : Parse => (q.1, q.2.set (p.gr.toNat - 1) ((i : Int), (q.1 : Int)))))) := by
          show _ = _
          rw [List.take_add_one, hq, List.map_append, ← nub_snoc]
          rfl
        have HWI := hid (fun (x : World) (hx : Grow wr.drew x) => rwith_int x (.slice ua u2.length uc) u2 p.gr (i : Int) (u1 : Int) (HSQ.out.below (grow_below hx)) hul hg9)
        have hbb2 := hb
        have HC0 := hid (⟨p0, p1, hb⟩ : _ ∧ _ ∧ _)
        have HC := hid (fun (x : World) (hx : Grow wr.drew x) => (⟨((grow_below hx).cell (p := ⟨b, j * 2, none⟩) HC0.out.2.2).trans HC0.out.1, ((grow_below hx).cell (p := ⟨b, j * 2 + 1, none⟩) HC0.out.2.2).trans HC0.out.2.1, ((HG.out.2.2.1.later (grow_below hx)).2.1).c9⟩ : _ ∧ _ ∧ _))
        clear h0 h1 h2 h3 hsq hmem hpk hq hbp p0 p1
        go_wp2_with fail
        refine wp_region_two 20 22 rfl (Grow) (by kernel_rfl) (by kernel_rfl) (Grow.refl) (fun _ _ _ => Grow.trans) ?_
        simp only [fill, dstOf, Act.put, List.take_succ_cons, List.take_zero, List.getElem?_toArray, List.getElem?_cons_zero, List.getElem?_cons_succ, Option.bind_some, List.setIfInBounds_toArray, List.set_cons_zero, List.set_cons_succ]
        refine Plan.det 1 rfl (Grow.refl) ?_
        apply Exists.intro
        refine ⟨fun vs x hR hF K hK => ?_, ?_⟩
        · clear hF
          go_simp
          exact hK _ _ (Grow.refl _) rfl
        refine Plan.det 2 rfl (Grow.refl) ?_
        apply Exists.intro
        refine ⟨fun vs x hR hF K hK => ?_, ?_⟩
        · clear hF
          go_simp
          exact hK _ _ (Grow.refl _) rfl
        refine Plan.det 3 rfl (Grow.refl) ?_
        apply Exists.intro
        refine ⟨fun vs x hR hF K hK => ?_, ?_⟩
        · clear hF
          go_simp
          exact hK _ _ (Grow.refl _) rfl
        refine Plan.det 4 rfl (Grow.refl) ?_
        apply Exists.intro
        refine ⟨fun vs x hR hF K hK => ?_, ?_⟩
        · have f1 := hF 1 _ _ rfl rfl; have f2 := hF 0 _ _ rfl rfl; clear hF
          go_simp
          exact hK _ _ (Grow.refl _) rfl
        refine Plan.det 5 rfl (Grow.refl) ?_
        apply Exists.intro
        refine ⟨fun vs x hR hF K hK => ?_, ?_⟩
        · have f3 := hF 0 _ _ rfl rfl; clear hF
          go_simp
          exact hK _ _ (Grow.refl _) rfl
        refine Plan.det 6 rfl (Grow.refl) ?_
        apply Exists.intro
        refine ⟨fun vs x hR hF K hK => ?_, ?_⟩
        · have f4 := hF 0 _ _ rfl rfl; have hc := HC.out x hR; clear hF
          go_simp
          exact hK _ _ (Grow.refl _) rfl
        refine Plan.det 7 rfl (Grow.refl) ?_
        apply Exists.intro
        refine ⟨fun vs x hR hF K hK => ?_, ?_⟩
        · clear hF
          go_simp
          exact hK _ _ (Grow.refl _) rfl
        refine Plan.det 8 rfl (Grow.refl) ?_
        apply Exists.intro
        refine ⟨fun vs x hR hF K hK => ?_, ?_⟩
        · clear hF
          go_simp
          exact hK _ _ (Grow.refl _) rfl
        refine Plan.det 9 rfl (Grow.refl) ?_
        apply Exists.intro
        refine ⟨fun vs x hR hF K hK => ?_, ?_⟩
        · have f6 := hF 1 _ _ rfl rfl; have f7 := hF 0 _ _ rfl rfl; clear hF
          go_simp
          exact hK _ _ (Grow.refl _) rfl
        refine Plan.det 10 rfl (Grow.refl) ?_
        apply Exists.intro
        refine ⟨fun vs x hR hF K hK => ?_, ?_⟩
        · have f8 := hF 0 _ _ rfl rfl; clear hF
          go_simp
          exact hK _ _ (Grow.refl _) rfl
        refine Plan.det 11 rfl (Grow.refl) ?_
        apply Exists.intro
        refine ⟨fun vs x hR hF K hK => ?_, ?_⟩
        · have f9 := hF 0 _ _ rfl rfl; have hc := HC.out x hR; clear hF
          go_simp
          exact hK _ _ (Grow.refl _) rfl
        refine Plan.det 12 rfl (Grow.refl) ?_
        apply Exists.intro
        refine ⟨fun vs x hR hF K hK => ?_, ?_⟩
        · clear hF
          go_simp
          exact hK _ _ (Grow.refl _) rfl
        refine Plan.det 13 rfl (Grow.refl) ?_
        apply Exists.intro
        refine ⟨fun vs x hR hF K hK => ?_, ?_⟩
        · have f11 := hF 0 _ _ rfl rfl; have hc := HC.out x hR; clear hF
          go_simp
          exact hK _ _ (Grow.refl _) rfl
        refine Plan.det 14 rfl (Grow.refl) ?_
        apply Exists.intro
        refine ⟨fun vs x hR hF K hK => ?_, ?_⟩
        · clear hF
          go_simp
          exact hK _ _ (Grow.refl _) rfl
        refine Plan.det 15 rfl (Grow.refl) ?_
        apply Exists.intro
        refine ⟨fun vs x hR hF K hK => ?_, ?_⟩
        · clear hF
          go_simp
          exact hK _ _ (Grow.refl _) rfl
        refine Plan.det 16 rfl (Grow.refl) ?_
        apply Exists.intro
        refine ⟨fun vs x hR hF K hK => ?_, ?_⟩
        · clear hF
          go_simp
          exact hK _ _ (Grow.refl _) rfl
        refine Plan.det 17 rfl (Grow.refl) ?_
        apply Exists.intro
        refine ⟨fun vs x hR hF K hK => ?_, ?_⟩
        · have f14 := hF 1 _ _ rfl rfl; have f15 := hF 0 _ _ rfl rfl; clear hF
          go_simp
          exact hK _ _ (Grow.refl _) rfl
        refine Plan.det 18 rfl (Grow.refl) ?_
        apply Exists.intro
        refine ⟨fun vs x hR hF K hK => ?_, ?_⟩
        · have f16 := hF 0 _ _ rfl rfl; clear hF
          go_simp
          exact hK _ _ (Grow.refl _) rfl
        refine Plan.det 19 rfl (Grow.refl) ?_
        apply Exists.intro
        refine ⟨fun vs x hR hF K hK => ?_, ?_⟩
        · have f17 := hF 0 _ _ rfl rfl; have hc := HC.out x hR; clear hF
          go_simp
          exact hK _ _ (Grow.refl _) rfl
        refine Plan.rel 20 rfl (Grow.refl) (fun v y => ∃ (a2 : Option Addr) (c2 : Nat), v = .slice a2 u2.length c2 ∧ SpQ y (.slice a2 u2.length c2) (u2.set (p.gr.toNat - 1) ((i : Int), (u1 : Int)))) (fun v y z hR ⟨a1, c1, h1, h2⟩ => ⟨a1, c1, h1, h2.below hR⟩) (fun vs x hR hF K hK => ?_) ?_
        · have f10 := hF 8 _ _ rfl rfl; have f12 := hF 6 _ _ rfl rfl; have f13 := hF 5 _ _ rfl rfl; have f18 := hF 0 _ _ rfl rfl
          go_simp
          refine (HWI.out x hR).mono ?_
          rintro e x1 ⟨a2, c2, rfl, hbe, h1⟩
          exact ⟨_, rfl, hK _ _ hbe ⟨a2, c2, rfl, h1⟩⟩
        refine PlanEnd (by simp) (fun vs x hR hF => ?_)
        have f0 := hF 19 _ _ rfl; have f1 := hF 18 _ _ rfl; have f2 := hF 17 _ _ rfl; have f3 := hF 16 _ _ rfl; have f4 := hF 15 _ _ rfl; have f5 := hF 14 _ _ rfl; have f6 := hF 13 _ _ rfl; have f7 := hF 12 _ _ rfl; have f8 := hF 11 _ _ rfl; have f9 := hF 10 _ _ rfl; have f10 := hF 9 _ _ rfl; have f11 := hF 8 _ _ rfl; have f12 := hF 7 _ _ rfl; have f13 := hF 6 _ _ rfl; have f14 := hF 5 _ _ rfl; have f15 := hF 4 _ _ rfl; have f16 := hF 3 _ _ rfl; have f17 := hF 2 _ _ rfl; have f18 := hF 1 _ _ rfl; have f19 := hF 0 _ _ rfl
        clear hF
        simp only [f0, f1, f2, f3, f4, f5, f6, f7, f8, f9, f10, f11, f12, f13, f14, f15, f16, f17, f18]
        clear f0 f1 f2 f3 f4 f5 f6 f7 f8 f9 f10 f11 f12 f13 f14 f15 f16 f17 f18
        intro oo hoo KQ hK
        obtain rfl := Option.some.inj hoo
        clear hoo
        obtain ⟨a2, c2, ev2, hs2⟩ := f19
        simp only [ev2]
        clear ev2
        have HBX := hid (grow_below hR)
        have HS2 := hid hs2
        clear hR hs2
        go_simp
        refine (radd_any x w.heap.size (.slice a m c) (.slice a2 u2.length c2) (nub ((l.take j).map (fun q : Parse => (q.1, q.2.set (p.gr.toNat - 1) ((i : Int), (q.1 : Int)))))) u1 (u2.set (p.gr.toNat - 1) ((i : Int), (u1 : Int))) (HG.out.2.1.below HBX.out) HS2.out (by rw [← HG.out.1]; exact hml) (Nat.le_trans HG.out.2.2.1.2.2.size HBX.out.size) HALL.out).mono ?_
        rw [HST.out]
        rintro e w' ⟨a3, c3, rfl, ho3, hg3, hn3⟩
        have HZ : Hid (GrpL w s lines [.int .i64 p.op, .int .u64 p.set.a, .int .u64 p.set.b, .int .u64 p.set.c, .int .u64 p.set.d, .int .i64 p.lo, .int .i64 p.hi, .int .i64 p.gr, .slice (some ⟨bb, o, none⟩) 1 cap] ((l.take (j + 1)).map (fun q : Parse => (q.1, q.2.set (p.gr.toNat - 1) ((i : Int), (q.1 : Int))))) a3 (nub ((l.take (j + 1)).map (fun q : Parse => (q.1, q.2.set (p.gr.toNat - 1) ((i : Int), (q.1 : Int)))))).length c3 w' ∧ PsQ (fun b => (Value.slice a3 (nub ((l.take (j + 1)).map (fun q : Parse => (q.1, q.2.set (p.gr.toNat - 1) ((i : Int), (q.1 : Int)))))).length c3).ownBlock ≠ some b) w' (.slice (some ⟨b, 0, none⟩) n c9) l) := ⟨⟨rfl, ho3, (HG.out.2.2.1.later HBX.out).grown (HG.out.2.1.below HBX.out) hg3⟩, (HG.out.2.2.2.below HBX.out).grown (HG.out.2.1.below HBX.out) hg3 fun b1 hb1 hp1 => ⟨hp1, fun e => (hn3 b1 e).elim hp1 (fun h5 => by omega)⟩⟩
        obtain ⟨m3, hm3⟩ : ∃ m3, m3 = (nub ((l.take (j + 1)).map (fun q : Parse => (q.1, q.2.set (p.gr.toNat - 1) ((i : Int), (q.1 : Int)))))).length := ⟨_, rfl⟩
        rw [← hm3] at HZ ⊢
        clear ho3 hg3 hn3 hm3
        refine ⟨_, rfl, hK _ _ ?_⟩
        clear hK
        unfold AfterC
        simp only [fill, dstOf, Act.put, List.getElem?_toArray, List.getElem?_cons_zero, List.getElem?_cons_succ, Option.bind_some, List.setIfInBounds_toArray, List.set_cons_zero, List.set_cons_succ, List.drop_succ_cons, List.drop_zero]
        refine Plan.det 22 rfl (fun _ => rfl) ?_
        apply Exists.intro
        refine ⟨fun vs x hR hF K hK => ?_, ?_⟩
        · have f20 := hF 0 _ _ rfl rfl; clear hF
          go_simp
          exact hK _ _ rfl rfl
        refine Plan.nil (fun vs x hR2 hF => ?_)
        have f20 := hF 1 _ _ rfl; have f21 := hF 0 _ _ rfl
        clear hF
        simp only [f20, f21]
        clear f20 f21
        subst hR2
        simp only [List.drop_succ_cons, List.drop_nil]
        clear HC q0 q1
        go_wp2_with fail
        refine ⟨⟨j + 1, a3, m3, c3, rfl, by go_num, by omega, HZ.out⟩, ?_⟩
        simp [intOf] <;> omega
      · obtain rfl : j = n := by omega
        have hltI : ¬ (j : Int) < (j : Int) := by omega
        have HG := hid (⟨h0, h1, h2⟩ : _ ∧ _ ∧ _)
        clear h0 h1 h2 h3
        have hps := HG.out.2.1.psq
        have hm := HG.out.1
        have htk : l.take j = l := by rw [HNN.out]; exact List.take_length
        rw [htk] at hm hps
        have HPS2 := hid hps
        have HM := hid hm
        have hle : (nub (l.map (fun q : Parse => (q.1, q.2.set (p.gr.toNat - 1) ((i : Int), (q.1 : Int)))))).length ≤ 100000 := by
          have := nub_le (l.map (fun q : Parse => (q.1, q.2.set (p.gr.toNat - 1) ((i : Int), (q.1 : Int)))))
          rw [List.length_map] at this
          have := HNN.out
          omega
        clear hps hm htk
        go_wp2_with fail
        refine (rdone_any _ _ _ (nub (l.map (fun q : Parse => (q.1, q.2.set (p.gr.toNat - 1) ((i : Int), (q.1 : Int)))))) (l.map (fun q : Parse => (q.1, q.2.set (p.gr.toNat - 1) ((i : Int), (q.1 : Int))))) s lines rfl HPS2.out hle hs).mono ?_
        rintro e w2 hr
        obtain ⟨a2, n2, c2, b2, rfl, HRR⟩ := hr.on HG.out.2.2.2.2 HPA.out.symm
        clear hr
        go_wp2_with fail
        go_ret2
        exact HRR.out
end Go.Proofs.YtkinnfejgpnddaaDoor

/- The reference of the parses: alternatives. -/
namespace Go.Proofs.YtkinnfejgpnddaaDoor
open Go.RowKit
attribute [local go_sem] gives givesUpon

section
variable (s : List UInt8) (lines : Bool)
theorem altP_app : ∀ (a b : List Re) (i : Nat) (sp : Spans), altP s lines (a ++ b) i sp = (altP s lines a i sp).bind fun l => (altP s lines b i sp).bind fun m => some (l ++ m)
  | [], b, i, sp => by
    rw [List.nil_append, altP]
    cases altP s lines b i sp <;> rfl
  | x :: a, b, i, sp => by
    rw [List.cons_append, altP, altP_app a b, altP]
    cases parses s lines x i sp with
    | none => rfl
    | some l =>
      cases altP s lines a i sp with
      | none => rfl
      | some m =>
        cases altP s lines b i sp with
        | none => rfl
        | some m2 => simp
theorem altP_one (x : Re) (i : Nat) (sp : Spans) : altP s lines [x] i sp = parses s lines x i sp := by
  rw [altP]
  cases parses s lines x i sp with
  | none => rfl
  | some l => simp [altP]
theorem altP_step {xs : List Re} {k i : Nat} {sp : Spans} {L m : List Parse} (hk : k < xs.length) (h : altP s lines (xs.take k) i sp = some L) (hm : parses s lines xs[k] i sp = some m) : altP s lines (xs.take (k + 1)) i sp = some (L ++ m) := by
  rw [List.take_add_one, List.getElem?_eq_getElem hk]
  show altP s lines (_ ++ [xs[k]]) i sp = _
  rw [altP_app, h, altP_one, hm]
  rfl
theorem altP_none {xs : List Re} {k i : Nat} {sp : Spans} (hk : k < xs.length) (hm : parses s lines xs[k] i sp = none) : altP s lines xs i sp = none := by
  have e : xs = xs.take k ++ (xs[k] :: xs.drop (k + 1)) := by rw [← List.drop_eq_getElem_cons hk, List.take_append_drop]
  rw [e, altP_app, altP, hm]
  cases altP s lines (xs.take k) i sp <;> rfl
end
/-- The block of a call of alt or cat. -/
def OneT (w : World) (s : ByteArray) (lines : Bool) (x : World) : Prop := Row x w.heap.size [.string s, .bool lines] 70 ∧ Below w.heap.size w x
theorem OneT.later {w : World} {s : ByteArray} {lines : Bool} {x y : World} (h : OneT w s lines x) (hb : Below x.heap.size x y) : OneT w s lines y := ⟨h.1.below hb h.1.lt, h.2.trans (hb.mono h.2.size)⟩
theorem OneT.grown {w : World} {s : ByteArray} {lines : Bool} {x y : World} {v : Value} {l : List Parse} (h : OneT w s lines x) (ho : OwnP x w.heap.size v l) (hg : x.grownBy y v.ownBlock) : OneT w s lines y := by
  obtain ⟨_, L, h1, h2, h3⟩ := ho
  exact ⟨h.1.grownOwn h3 (by decide) hg, h.2.grown hg h.2.size fun g hgg => (World.ownsRow.lt h3 g hgg).1⟩
/-- What the loop over alternatives keeps. -/
def AltL (w : World) (s : ByteArray) (lines : Bool) (N i : Nat) (L : List Parse) (k : Nat) (a : Option Addr) (m c : Nat) (wr : World) : Prop :=
  (L.length ≤ k * 4096 ∧ (∀ q, q ∈ L → POk N s.size i q)) ∧ m = (nub L).length ∧ OwnP wr w.heap.size (.slice a m c) (nub L) ∧ OneT w s lines wr
theorem sizes_len9 : ∀ xs : List Re, xs.length ≤ Re.sizes xs
  | [] => Nat.le_refl _
  | x :: xs => by
    have := sizes_len9 xs
    have h1 : Re.sizes (x :: xs) = x.size + Re.sizes xs := rfl
    have h2 : 1 ≤ x.size := by cases x; rw [Re.size_mk]; omega
    rw [List.length_cons]; omega
theorem size_kid9 : ∀ (xs : List Re) (k : Nat) (h : k < xs.length), xs[k].size ≤ Re.sizes xs
  | x :: xs, 0, _ => by have h1 : Re.sizes (x :: xs) = x.size + Re.sizes xs := rfl; show x.size ≤ _; omega
  | x :: xs, k + 1, h => by
    have h1 : Re.sizes (x :: xs) = x.size + Re.sizes xs := rfl
    have hk : k < xs.length := by simpa using h
    have := size_kid9 xs k hk; show (xs[k]'hk).size ≤ _; omega

-- def FN := (texttools/texttoolsref09.text).alt
-- def W1 := (w.alloc (.cells #[.string s, .bool lines] 70))
set_option maxRecDepth 100000 in
set_option maxHeartbeats 16000000 in
theorem ralt_any (wb : World) (N : Nat) (hN : N ≤ 9) (s : ByteArray) (hs : s.size ≤ 1000000) (lines : Bool) (xs : List Re) (HXS : ∀ x, x ∈ xs → RPar wb N s lines x) (w : World) (ad : Option Addr) (cap : Nat) (sa : Option Addr) (sc : Nat) (sp : Spans) (i : Nat)
    (hall : Re.AllIn wb xs ad 0) (hok : Re.oks N xs) (hsz : Re.sizes xs ≤ 20) (hbw : Below wb.heap.size wb w) (hsp : SpQ w (.slice sa sp.length sc) sp) (hspo : SpOk N s.size sp) (hi : i ≤ s.size) :
    Calls Tryd.prog 53 #[.agg #[.string s, .bool lines], .slice ad xs.length cap, .int .i64 i, .slice sa sp.length sc] w (RetP w ((altP s.data.toList lines xs i sp).bind (fin s.size))) := by
  have hT : OneT w s lines (w.alloc (.cells #[.string s, .bool lines] 70)) := ⟨Row.new rfl, (Below.refl _ _).alloc (Nat.le_refl _) _⟩
  have HT := hid hT
  have q0 := hT.1.two9
  have hsl : s.data.toList.length = s.size := by rw [Array.length_toList]; rfl
  have hxl := sizes_len9 xs
  obtain ⟨n, hn⟩ : ∃ n, n = xs.length := ⟨_, rfl⟩
  have hn20 : n ≤ 20 := by omega
  have HKID := hid (fun (x : World) (k : Nat) (hk : k < xs.length) (hx : Below w.heap.size w x) => hall.kid (hbw.trans (hx.mono hbw.size)) k hk)
  have HLEN := hid (fun (k : Nat) (hk : k < xs.length) l (h : parses s.data.toList lines xs[k] i sp = some l) => parses_len (Re.oks_get9 hok k hk) (by rw [hsl]; exact hi) (by rw [hsl]; exact hspo) h)
  have hpok := fun (k : Nat) (hk : k < xs.length) l (h : parses s.data.toList lines xs[k] i sp = some l) => parses_ok s.data.toList lines N xs[k] i sp l (Re.oks_get9 hok k hk) (by rw [hsl]; exact hi) (by rw [hsl]; exact hspo) h
  rw [hsl] at hpok
  have HPOK := hid hpok
  have HCH := hid (fun (x : World) (k : Nat) (hk : k < xs.length) (cs : List Value) (hin : Re.In wb xs[k] cs) (hx : Below w.heap.size w x) => HXS xs[k] (List.getElem_mem hk) x cs sa sc sp i hin (Re.oks_get9 hok k hk) (Nat.le_trans (size_kid9 xs k hk) hsz) (hbw.trans (hx.mono hbw.size)) (hsp.of (fun _ _ hr => hr.below hx hr.lt)) hspo hi)
  have HNN := hid hn
  rw [← hn]
  clear hT hall hok hsz hsp hspo hsl hxl hpok HXS hn
  go_enter Tryd.func53, Tryd.ntmps53
  go_wp2_with fail
  go_loopw [10, 11] (fun v10 v11 wr => ∃ (k : Nat) (L : List Parse) (a : Option Addr) (m c : Nat), v10 = .slice a m c ∧ v11 = .int .i64 k ∧ k ≤ n ∧ Hid (altP s.data.toList lines (xs.take k) i sp = some L ∧ AltL w s lines N i L k a m c wr)) (fun _ v11 _ => n - (intOf v11).toNat)
  case atStart => exact ⟨0, [], none, 0, 0, rfl, rfl, Nat.zero_le _, by simp [altP], ⟨by simp, fun _ h => by cases h⟩, rfl, OwnP.nil _ _, HT.out⟩
  case round =>
    obtain ⟨k, L, a, m, c, rfl, rfl, hk, HX⟩ := hrel
    obtain ⟨hL, ⟨hL1, hL2⟩, hm, ho, hT⟩ := HX.out
    have HG := hid (⟨hL, ⟨hL1, hL2⟩, hm, ho, hT⟩ : _ ∧ (_ ∧ _) ∧ _ ∧ _ ∧ _)
    have q0 := hT.1.two9
    by_cases hlt : k < n
    · have hltI : (k : Int) < (n : Int) := by omega
      have hkx : k < xs.length := by have := HNN.out; omega
      obtain ⟨bb, o, p', ad', n', cap', e3, HXC, HXI, hbb⟩ := HKID.out wr k hkx hT.2
      subst e3
      have HX1 := hid (fun (x : World) (hx : Grow wr.drew x) => HXC.out.below (grow_below hx))
      have HC := hid (fun (x : World) (hx : Grow wr.drew x) => ((HG.out.2.2.2.2.later (grow_below hx)).1).two9)
      have HCK := hid (fun (x : World) (hx : Below wr.heap.size wr x) => HCH.out x k hkx _ HXI.out (HG.out.2.2.2.2.2.trans (hx.mono HG.out.2.2.2.2.2.size)))
      have HSTEP := hid (fun l (h : parses s.data.toList lines xs[k] i sp = some l) => altP_step s.data.toList lines hkx HG.out.1 h)
      have HNONE := hid (fun (h : parses s.data.toList lines xs[k] i sp = none) => altP_none s.data.toList lines hkx h)
      have HPO := hid (HPOK.out k hkx)
      have HLE := hid (HLEN.out k hkx)
      obtain ⟨r, hr⟩ : ∃ r, r = parses s.data.toList lines xs[k] i sp := ⟨_, rfl⟩
      rw [← hr] at HCK HSTEP HNONE HPO HLE
      clear hr hL hL1 hL2 hm ho hT
      go_wp2_with fail
      refine wp_region_two 7 13 rfl (Grow) (by kernel_rfl) (by kernel_rfl) (Grow.refl) (fun _ _ _ => Grow.trans) ?_
      simp only [fill, dstOf, Act.put, List.take_succ_cons, List.take_zero, List.getElem?_toArray, List.getElem?_cons_zero, List.getElem?_cons_succ, Option.bind_some, List.setIfInBounds_toArray, List.set_cons_zero, List.set_cons_succ]
      refine Plan.det 1 rfl (Grow.refl) ?_
      apply Exists.intro
      refine ⟨fun vs x hR hF K hK => ?_, ?_⟩
      · have hc := HC.out x hR; clear hF
        go_simp
        exact hK _ _ (Grow.refl _) rfl
      refine Plan.det 2 rfl (Grow.refl) ?_
      apply Exists.intro
      refine ⟨fun vs x hR hF K hK => ?_, ?_⟩
      · clear hF
        go_simp
        exact hK _ _ (Grow.refl _) rfl
      refine Plan.det 3 rfl (Grow.refl) ?_
      apply Exists.intro
      refine ⟨fun vs x hR hF K hK => ?_, ?_⟩
      · clear hF
        go_simp
        exact hK _ _ (Grow.refl _) rfl
      refine Plan.det 4 rfl (Grow.refl) ?_
      apply Exists.intro
      refine ⟨fun vs x hR hF K hK => ?_, ?_⟩
      · have f1 := hF 1 _ _ rfl rfl; have f2 := hF 0 _ _ rfl rfl; clear hF
        go_simp
        exact hK _ _ (Grow.refl _) rfl
      refine Plan.det 5 rfl (Grow.refl) ?_
      apply Exists.intro
      refine ⟨fun vs x hR hF K hK => ?_, ?_⟩
      · have f3 := hF 0 _ _ rfl rfl; have hc := HC.out x hR; clear hF
        rw [if_pos (show Region.wanted _ _ = true from rfl)]
        refine gives_load_agg 28 _ rfl bb (o + k * 9) f3 _ _ (HX1.out _ hR) Tryd.underlying28 rfl (size_re9 _ _ _ _ _ _ _ _ _) ?_
        exact hK _ _ (Grow.refl _) rfl
      refine Plan.det 6 rfl (Grow.refl) ?_
      apply Exists.intro
      refine ⟨fun vs x hR hF K hK => ?_, ?_⟩
      · clear hF
        go_simp
        exact hK _ _ (Grow.refl _) rfl
      refine Plan.det 7 rfl (Grow.refl) ?_
      apply Exists.intro
      refine ⟨fun vs x hR hF K hK => ?_, ?_⟩
      · clear hF
        go_simp
        exact hK _ _ (Grow.refl _) rfl
      refine PlanEnd (by simp) (fun vs x hR hF => ?_)
      have f0 := hF 6 _ _ rfl; have f1 := hF 5 _ _ rfl; have f2 := hF 4 _ _ rfl; have f3 := hF 3 _ _ rfl; have f4 := hF 2 _ _ rfl; have f5 := hF 1 _ _ rfl; have f6 := hF 0 _ _ rfl
      clear hF
      simp only [f0, f1, f2, f3, f4, f5, f6]
      clear f0 f1 f2 f3 f4 f5 f6
      intro oo hoo KQ hK
      obtain rfl := Option.some.inj hoo
      clear hoo
      have HBX := hid (grow_below hR)
      clear HX1 hR
      go_simp
      refine (HCK.out _ HBX.out).mono ?_
      rintro e w' ⟨a9, l9, c9, rfl, hb9, h9, h9n⟩
      have HB9 := hid (HBX.out.trans (hb9.mono HBX.out.size))
      have HR9 := hid (And.intro h9 h9n)
      have hz9' := HBX.out.size
      clear hb9 h9 h9n
      refine ⟨_, rfl, hK _ _ ?_⟩
      clear hK
      unfold AfterC
      simp only [fill, dstOf, Act.put, List.getElem?_toArray, List.getElem?_cons_zero, List.getElem?_cons_succ, Option.bind_some, List.setIfInBounds_toArray, List.set_cons_zero, List.set_cons_succ, List.drop_succ_cons, List.drop_zero]
      refine Plan.det 9 rfl (fun _ => rfl) ?_
      apply Exists.intro
      refine ⟨fun vs x hR hF K hK => ?_, ?_⟩
      · have f7 := hF 0 _ _ rfl rfl; clear hF
        go_simp
        exact hK _ _ rfl rfl
      refine Plan.det 10 rfl (fun _ => rfl) ?_
      apply Exists.intro
      refine ⟨fun vs x hR hF K hK => ?_, ?_⟩
      · have f8 := hF 0 _ _ rfl rfl; clear hF
        go_simp
        exact hK _ _ rfl rfl
      refine Plan.det 11 rfl (fun _ => rfl) ?_
      apply Exists.intro
      refine ⟨fun vs x hR hF K hK => ?_, ?_⟩
      · have f8 := hF 1 _ _ rfl rfl; clear hF
        go_simp
        exact hK _ _ rfl rfl
      refine Plan.det 12 rfl (fun _ => rfl) ?_
      apply Exists.intro
      refine ⟨fun vs x hR hF K hK => ?_, ?_⟩
      · have f7 := hF 3 _ _ rfl rfl; have f8 := hF 2 _ _ rfl rfl; have f9 := hF 1 _ _ rfl rfl; clear hF
        go_simp
        exact hK _ _ rfl rfl
      refine Plan.det 13 rfl (fun _ => rfl) ?_
      apply Exists.intro
      refine ⟨fun vs x hR hF K hK => ?_, ?_⟩
      · have f7 := hF 4 _ _ rfl rfl; have f8 := hF 3 _ _ rfl rfl; have f9 := hF 2 _ _ rfl rfl; have f10 := hF 1 _ _ rfl rfl; have f11 := hF 0 _ _ rfl rfl; clear hF
        go_simp
        exact hK _ _ rfl rfl
      refine Plan.nil (fun vs x hR2 hF => ?_)
      have f7 := hF 5 _ _ rfl; have f8 := hF 4 _ _ rfl; have f9 := hF 3 _ _ rfl; have f10 := hF 2 _ _ rfl; have f11 := hF 1 _ _ rfl; have f12 := hF 0 _ _ rfl
      clear hF
      simp only [f7, f8, f9, f10, f11, f12]
      clear f7 f8 f9 f10 f11 f12
      subst hR2
      simp only [List.drop_succ_cons, List.drop_nil]
      clear HC q0 HCK
      cases r with
      | none =>
        obtain ⟨rfl, rfl, rfl⟩ := HR9.out.2 rfl
        simp only [Option.isSome_none]
        go_wp2_with fail
        go_ret2
        exact ⟨none, 0, 0, by rw [HNONE.out (by simp)]; rfl, HG.out.2.2.2.2.2.trans (HB9.out.mono HG.out.2.2.2.2.2.size), fun l hl => (by rw [HNONE.out (by simp)] at hl; cases hl), fun _ => ⟨rfl, rfl, rfl⟩⟩
      | some l =>
        obtain ⟨rfl, hps⟩ := HR9.out.1 l rfl
        have hl4 := HLE.out l rfl
        have HPS := hid (hps.mono (q := fun b => (Value.slice a m c).ownBlock ≠ some b) fun b _ hb e => by have := (HG.out.2.2.2.1.lt b e).2; omega)
        obtain ⟨t, htt⟩ : ∃ t, t = l.length := ⟨_, rfl⟩
        have HTT := hid htt
        rw [← htt] at HPS hl4 ⊢
        clear hps htt HR9 HLE
        have HG2 := hid (⟨HG.out.2.1, HG.out.2.2.1, HG.out.2.2.2.1.below HB9.out, HG.out.2.2.2.2.later HB9.out⟩ : _ ∧ _ ∧ _ ∧ _)
        simp only [Option.isSome_some]
        go_wp2_with fail
        go_loopw [10, 14] (fun v10 v14 wr => ∃ (j : Nat) (a : Option Addr) (m c : Nat), v10 = .slice a m c ∧ v14 = .int .i64 j ∧ j ≤ t ∧ Hid (m = (nub (L ++ l.take j)).length ∧ OwnP wr w.heap.size (.slice a m c) (nub (L ++ l.take j)) ∧ OneT w s lines wr ∧ PsQ (fun b => (Value.slice a m c).ownBlock ≠ some b) wr (.slice a9 t c9) l)) (fun _ v14 _ => t - (intOf v14).toNat)
        case atStart =>
          exact ⟨0, a, m, c, rfl, rfl, Nat.zero_le _, by rw [List.take_zero, List.append_nil]; exact HG2.out.2.1, by rw [List.take_zero, List.append_nil]; exact HG2.out.2.2.1, HG2.out.2.2.2, HPS.out⟩
        case round =>
          obtain ⟨j, a, m, c, rfl, rfl, hj, HX⟩ := hrel
          obtain ⟨h0, h1, h2, h3⟩ := HX.out
          have q0 := h2.1.two9
          by_cases hlt2 : j < t
          · have hltJ : (j : Int) < (t : Int) := by omega
            obtain ⟨b, cc, u1, u2, ua, uc, hq, ev, hb, hbp, -, p0, p1, hsq⟩ := h3.get (k := j) (by have := HTT.out; omega)
            injection ev with e1 e2 e3
            subst e1; subst e3
            clear e2
            have hmem : (u1, u2) ∈ l := List.mem_of_getElem? hq
            have hpk := HPO.out l rfl (u1, u2) hmem
            have hu1 : u1 ≤ s.size := hpk.2.1
            have hul : u2.length ≤ 9 := by have := hpk.2.2.1; dsimp only at this; omega
            have HG3 := hid (⟨h0, h1, h2, h3⟩ : _ ∧ _ ∧ _ ∧ _)
            have HSQ := hid hsq
            have hml : m ≤ 100000 := by
              have h4 := nub_le (L ++ l.take j)
              have h5 := HG.out.2.1.1
              rw [List.length_append, List.length_take] at h4
              have : k * 4096 ≤ 20 * 4096 := Nat.mul_le_mul_right _ (by omega)
              omega
            have HALL : Hid (∀ q, q ∈ (u1, u2) :: nub (L ++ l.take j) → q.2.length ≤ 9 ∧ q.1 ≤ 1000000) := by
              intro q hq
              have h4 : POk N s.size i q := by
                rcases List.mem_cons.1 hq with rfl | hq
                · exact hpk
                · rcases List.mem_append.1 (nub_mem.1 hq) with h5 | h5
                  · exact HG.out.2.1.2 q h5
                  · exact HPO.out l rfl q (List.mem_of_mem_take h5)
              have h5 := h4.2.1
              have h6 := h4.2.2.1
              exact ⟨by omega, by omega⟩
            have HST : Hid (addP (nub (L ++ l.take j)) (u1, u2) = nub (L ++ l.take (j + 1))) := by
              show _ = _
              rw [List.take_add_one, hq, ← List.append_assoc, ← nub_snoc]
              rfl
            have HC0 := hid (⟨p0, p1, hb⟩ : _ ∧ _ ∧ _)
            have HC := hid (fun (x : World) (hx : Grow wr.drew x) => (⟨((grow_below hx).cell (p := ⟨b, j * 2, none⟩) HC0.out.2.2).trans HC0.out.1, ((grow_below hx).cell (p := ⟨b, j * 2 + 1, none⟩) HC0.out.2.2).trans HC0.out.2.1⟩ : _ ∧ _))
            clear h0 h1 h2 h3 hsq hmem hpk hq hbp p0 p1
            go_wp2_with fail
            refine wp_region_two 11 13 rfl (Grow) (by kernel_rfl) (by kernel_rfl) (Grow.refl) (fun _ _ _ => Grow.trans) ?_
            simp only [fill, dstOf, Act.put, List.take_succ_cons, List.take_zero, List.getElem?_toArray, List.getElem?_cons_zero, List.getElem?_cons_succ, Option.bind_some, List.setIfInBounds_toArray, List.set_cons_zero, List.set_cons_succ]
            refine Plan.det 1 rfl (Grow.refl) ?_
            apply Exists.intro
            refine ⟨fun vs x hR hF K hK => ?_, ?_⟩
            · clear hF
              go_simp
              exact hK _ _ (Grow.refl _) rfl
            refine Plan.det 2 rfl (Grow.refl) ?_
            apply Exists.intro
            refine ⟨fun vs x hR hF K hK => ?_, ?_⟩
            · clear hF
              go_simp
              exact hK _ _ (Grow.refl _) rfl
            refine Plan.det 3 rfl (Grow.refl) ?_
            apply Exists.intro
            refine ⟨fun vs x hR hF K hK => ?_, ?_⟩
            · clear hF
              go_simp
              exact hK _ _ (Grow.refl _) rfl
            refine Plan.det 4 rfl (Grow.refl) ?_
            apply Exists.intro
            refine ⟨fun vs x hR hF K hK => ?_, ?_⟩
            · have f1 := hF 1 _ _ rfl rfl; have f2 := hF 0 _ _ rfl rfl; clear hF
              go_simp
              exact hK _ _ (Grow.refl _) rfl
            refine Plan.det 5 rfl (Grow.refl) ?_
            apply Exists.intro
            refine ⟨fun vs x hR hF K hK => ?_, ?_⟩
            · have f3 := hF 0 _ _ rfl rfl; clear hF
              go_simp
              exact hK _ _ (Grow.refl _) rfl
            refine Plan.det 6 rfl (Grow.refl) ?_
            apply Exists.intro
            refine ⟨fun vs x hR hF K hK => ?_, ?_⟩
            · have f4 := hF 0 _ _ rfl rfl; have hc := HC.out x hR; clear hF
              go_simp
              exact hK _ _ (Grow.refl _) rfl
            refine Plan.det 7 rfl (Grow.refl) ?_
            apply Exists.intro
            refine ⟨fun vs x hR hF K hK => ?_, ?_⟩
            · clear hF
              go_simp
              exact hK _ _ (Grow.refl _) rfl
            refine Plan.det 8 rfl (Grow.refl) ?_
            apply Exists.intro
            refine ⟨fun vs x hR hF K hK => ?_, ?_⟩
            · clear hF
              go_simp
              exact hK _ _ (Grow.refl _) rfl
            refine Plan.det 9 rfl (Grow.refl) ?_
            apply Exists.intro
            refine ⟨fun vs x hR hF K hK => ?_, ?_⟩
            · have f6 := hF 1 _ _ rfl rfl; have f7 := hF 0 _ _ rfl rfl; clear hF
              go_simp
              exact hK _ _ (Grow.refl _) rfl
            refine Plan.det 10 rfl (Grow.refl) ?_
            apply Exists.intro
            refine ⟨fun vs x hR hF K hK => ?_, ?_⟩
            · have f8 := hF 0 _ _ rfl rfl; clear hF
              go_simp
              exact hK _ _ (Grow.refl _) rfl
            refine Plan.det 11 rfl (Grow.refl) ?_
            apply Exists.intro
            refine ⟨fun vs x hR hF K hK => ?_, ?_⟩
            · have f9 := hF 0 _ _ rfl rfl; have hc := HC.out x hR; clear hF
              go_simp
              exact hK _ _ (Grow.refl _) rfl
            refine PlanEnd (by simp) (fun vs x hR hF => ?_)
            have f0 := hF 10 _ _ rfl; have f1 := hF 9 _ _ rfl; have f2 := hF 8 _ _ rfl; have f3 := hF 7 _ _ rfl; have f4 := hF 6 _ _ rfl; have f5 := hF 5 _ _ rfl; have f6 := hF 4 _ _ rfl; have f7 := hF 3 _ _ rfl; have f8 := hF 2 _ _ rfl; have f9 := hF 1 _ _ rfl; have f10 := hF 0 _ _ rfl
            clear hF
            simp only [f0, f1, f2, f3, f4, f5, f6, f7, f8, f9, f10]
            clear f0 f1 f2 f3 f4 f5 f6 f7 f8 f9 f10
            intro oo hoo KQ hK
            obtain rfl := Option.some.inj hoo
            clear hoo
            have HBX := hid (grow_below hR)
            clear hR
            go_simp
            refine (radd_any x w.heap.size (.slice a m c) (.slice ua u2.length uc) (nub (L ++ l.take j)) u1 u2 (HG3.out.2.1.below HBX.out) (HSQ.out.below HBX.out) (by rw [← HG3.out.1]; exact hml) (Nat.le_trans HG3.out.2.2.1.2.size HBX.out.size) HALL.out).mono ?_
            rw [HST.out]
            rintro e w' ⟨a3, c3, rfl, ho3, hg3, hn3⟩
            have HZ : Hid ((nub (L ++ l.take (j + 1))).length = (nub (L ++ l.take (j + 1))).length ∧ OwnP w' w.heap.size (.slice a3 (nub (L ++ l.take (j + 1))).length c3) (nub (L ++ l.take (j + 1))) ∧ OneT w s lines w' ∧ PsQ (fun b => (Value.slice a3 (nub (L ++ l.take (j + 1))).length c3).ownBlock ≠ some b) w' (.slice (some ⟨b, 0, none⟩) t c9) l) := ⟨rfl, ho3, (HG3.out.2.2.1.later HBX.out).grown (HG3.out.2.1.below HBX.out) hg3, (HG3.out.2.2.2.below HBX.out).grown (HG3.out.2.1.below HBX.out) hg3 fun b1 hb1 hp1 => ⟨hp1, fun e => (hn3 b1 e).elim hp1 (fun h5 => by omega)⟩⟩
            obtain ⟨m3, hm3⟩ : ∃ m3, m3 = (nub (L ++ l.take (j + 1))).length := ⟨_, rfl⟩
            have HZ2 : Hid (m3 = (nub (L ++ l.take (j + 1))).length ∧ OwnP w' w.heap.size (.slice a3 m3 c3) (nub (L ++ l.take (j + 1))) ∧ OneT w s lines w' ∧ PsQ (fun b => (Value.slice a3 m3 c3).ownBlock ≠ some b) w' (.slice (some ⟨b, 0, none⟩) t c9) l) := by rw [hm3]; exact HZ.out
            rw [← hm3]
            clear ho3 hg3 hn3 hm3 HZ
            refine ⟨_, rfl, hK _ _ ?_⟩
            clear hK
            unfold AfterC
            simp only [fill, dstOf, Act.put, List.getElem?_toArray, List.getElem?_cons_zero, List.getElem?_cons_succ, Option.bind_some, List.setIfInBounds_toArray, List.set_cons_zero, List.set_cons_succ, List.drop_succ_cons, List.drop_zero]
            refine Plan.det 13 rfl (fun _ => rfl) ?_
            apply Exists.intro
            refine ⟨fun vs x hR hF K hK => ?_, ?_⟩
            · have f11 := hF 0 _ _ rfl rfl; clear hF
              go_simp
              exact hK _ _ rfl rfl
            refine Plan.nil (fun vs x hR2 hF => ?_)
            have f11 := hF 1 _ _ rfl; have f12 := hF 0 _ _ rfl
            clear hF
            simp only [f11, f12]
            clear f11 f12
            subst hR2
            simp only [List.drop_succ_cons, List.drop_nil]
            clear HC q0
            go_wp2_with fail
            refine ⟨⟨j + 1, a3, m3, c3, rfl, by go_num, by omega, HZ2.out⟩, ?_⟩
            simp [intOf] <;> omega
          · obtain rfl : j = t := by omega
            have hltJ : ¬ (j : Int) < (j : Int) := by omega
            have htk : l.take j = l := by rw [HTT.out]; exact List.take_length
            rw [htk] at h0 h1
            have HZ : Hid (altP s.data.toList lines (xs.take (k + 1)) i sp = some (L ++ l) ∧ AltL w s lines N i (L ++ l) (k + 1) a m c wr) := by
              refine ⟨HSTEP.out l rfl, ⟨?_, ?_⟩, h0, h1, h2⟩
              · rw [List.length_append]
                have := HG.out.2.1.1
                have := HTT.out
                omega
              · intro q hq
                rcases List.mem_append.1 hq with h5 | h5
                · exact HG.out.2.1.2 q h5
                · exact HPO.out l rfl q h5
            clear h0 h1 h2 h3 htk
            go_wp2_with fail
            refine ⟨⟨k + 1, L ++ l, a, m, c, rfl, by go_num, by omega, HZ.out⟩, ?_⟩
            simp [intOf] <;> omega
    · obtain rfl : k = n := by omega
      have hltI : ¬ (k : Int) < (k : Int) := by omega
      have htk : xs.take k = xs := by rw [HNN.out]; exact List.take_length
      rw [htk] at hL
      have HF : Hid (fin s.size L = (altP s.data.toList lines xs i sp).bind (fin s.size)) := by show _ = _; rw [hL]; rfl
      have hps := ho.psq
      have hle : (nub L).length ≤ 100000 := by
        have h4 := nub_le L
        have : k * 4096 ≤ 20 * 4096 := Nat.mul_le_mul_right _ hn20
        omega
      have HPS := hid hps
      clear hL hL1 hL2 hm ho hT hps htk
      go_wp2_with fail
      refine (rdone_any _ _ _ (nub L) L s lines rfl HPS.out hle hs).mono ?_
      rintro e w2 hr
      obtain ⟨a2, n2, c2, b2, rfl, HRR⟩ := hr.on HG.out.2.2.2.2.2 HF.out
      clear hr
      go_wp2_with fail
      go_ret2
      exact HRR.out
end Go.Proofs.YtkinnfejgpnddaaDoor
