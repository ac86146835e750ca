/- The reference of the parses: a group. -/
import Derived.Test.YthnpbopnpdlmnaaX30
import Derived.Test.YthnpbopnpdlmnaaX10
namespace Go.Proofs.Ythnpbopnpdlmnaa
open Go.RowKit
attribute [local go_sem] gives givesUpon

theorem rwith_int (w : World) (sv : Value) (sp : Spans) (gr : Int) (i k : Int) (hsp : SpQ w sv sp) (hl : sp.length ≤ 9) (hg : 1 ≤ gr ∧ gr ≤ 9) :
    Calls Try.prog 53 #[sv, .int .i64 gr, .int .i64 i, .int .i64 k] w fun e w' => ∃ a c, e = .returned (.slice a sp.length c) ∧ Below w.heap.size w w' ∧ SpQ w' (.slice a sp.length c) (sp.set (gr.toNat - 1) (i, k)) := by
  obtain ⟨g, rfl⟩ : ∃ g : Nat, gr = g := ⟨gr.toNat, by omega⟩
  have := rwith_any w sv sp g i k hsp hl (by omega)
  simpa using this
theorem Two.text {w : World} {s : ByteArray} {lines : Bool} {BXL : List Value} {x : World} (h : Two w s lines BXL x) : x.cell? ⟨w.heap.size, 0, none⟩ = some (.string s) ∧ x.cell? ⟨w.heap.size, 1, none⟩ = some (.bool lines) := h.1.two9
def GrpL (w : World) (s : ByteArray) (lines : Bool) (BXL : List Value) (l : List Parse) (a : Option Addr) (m c : Nat) (wr : World) : Prop :=
  m = (nub l).length ∧ OwnP wr w.heap.size (.slice a m c) (nub l) ∧ Two w s lines BXL wr
theorem Two.grown {w : World} {s : ByteArray} {lines : Bool} {BXL : List Value} {x y : World} {v : Value} {l : List Parse} (h : Two w s lines BXL x) (ho : OwnP x w.heap.size v l) (hg : x.grownBy y v.ownBlock) : Two w s lines BXL y := by
  obtain ⟨_, L, h1, h2, h3⟩ := ho
  exact ⟨h.1.grownOwn h3 (by decide) hg, h.2.1.grownOwn h3 (by decide) hg, h.2.2.grown hg h.2.2.size fun g hgg => (World.ownsRow.lt h3 g hgg).1⟩
theorem PsQ.grown {p q : Nat → Prop} {x y : World} {v : Value} {l m : List Parse} {u : Value} {base : Nat} (h : PsQ p x u m) (ho : OwnP x base v l) (hg : x.grownBy y v.ownBlock) (hp : ∀ b, b < x.heap.size → p b → v.ownBlock ≠ some b ∧ q b) : PsQ q y u m := by
  obtain ⟨_, L, h1, h2, h3⟩ := ho
  exact h.of (fun b cs hr => hr.grownOwn h3 (by decide) hg) fun b cs hpb hr => ⟨(hg.block b hr.lt (fun e => (hp b hr.lt hpb).1 e.symm)).trans hr, (hp b hr.lt hpb).2⟩
set_option maxRecDepth 100000 in
set_option maxHeartbeats 16000000 in
theorem rpar6 (wb : World) (N : Nat) (hN : N ≤ 9) (s : ByteArray) (hs : s.size ≤ 1000000) (lines : Bool) (p : Pay) (x0 : Re) (hop : p.op = 6) (HX0 : RPar wb N s lines x0) : RPar wb N s lines (.mk p [x0]) := by
  intro w cs sa sc sp i hIn hok hsz hbw hsp hspo hi
  have hIn2 := hIn
  rw [Re.In] at hIn
  obtain ⟨ad, cap, rfl, hwf, -, -, -, hall⟩ := hIn
  obtain ⟨bb, o, cs0, hq1, hq2, hq3⟩ := hall.get 0 x0 (by simp)
  have hk := hall.kid hbw 0 (by simp)
  obtain ⟨bb', o', p', ad', n', cap', e', HXC, HXI, hbb⟩ := hk
  rw [hq1] at e'
  injection e' with e'
  injection e' with e1 e2
  subst e1; subst e2; subst hq1
  simp only [Pay.cells]
  have hT : Two w s lines [.int .i64 p.op, .int .u64 p.set.a, .int .u64 p.set.b, .int .u64 p.set.c, .int .u64 p.set.d, .int .i64 p.lo, .int .i64 p.hi, .int .i64 p.gr, .slice (some ⟨bb, o, none⟩) 1 cap] ((w.alloc (.cells #[.string s, .bool lines] 75)).alloc (.cells #[.int .i64 p.op, .int .u64 p.set.a, .int .u64 p.set.b, .int .u64 p.set.c, .int .u64 p.set.d, .int .i64 p.lo, .int .i64 p.hi, .int .i64 p.gr, .slice (some ⟨bb, o, none⟩) 1 cap] 28)) := ⟨(Row.new rfl).alloc _, Row.new (by simp), ((Below.refl _ _).alloc (Nat.le_refl _) _).alloc (by simp) _⟩
  have HT := hid hT
  have HS := hid (hsp.below hT.2.2)
  have q0 := hT.1.two9
  have q1 := hT.2.1.c9
  have HSO := hid hspo
  have HO := hid hop
  have HBW := hid hbw
  have hsl : s.data.toList.length = s.size := by rw [Array.length_toList]; rfl
  have HSL := hid hsl
  have hok2 := hok
  rw [Re.ok, Re.oks] at hok
  have hgr := hok.2.2.2.1 (.inl hop)
  have hg9 : 1 ≤ p.gr ∧ p.gr ≤ 9 := by omega
  have hspl : sp.length ≤ 9 := by have := hspo.1; omega
  have hszz : x0.size ≤ 20 := by rw [Re.size_mk] at hsz; have h1 : Re.sizes [x0] = x0.size + 0 := rfl; omega
  have HPA : Hid (parses s.data.toList lines (.mk p [x0]) i sp = (parses s.data.toList lines x0 i sp).bind fun l => fin s.size (l.map fun q => (q.1, q.2.set (p.gr.toNat - 1) ((i : Int), (q.1 : Int))))) := by
    show _ = _; rw [parses]; simp only [hop, firstP, hsl]; rfl
  have hlen0 := fun l (h : parses s.data.toList lines x0 i sp = some l) => parses_len hok.2.2.2.2.1 (by rw [hsl]; exact hi) (by rw [hsl]; exact hspo) h
  have hpok := fun l (h : parses s.data.toList lines x0 i sp = some l) => parses_ok s.data.toList lines N x0 i sp l hok.2.2.2.2.1 (by rw [hsl]; exact hi) (by rw [hsl]; exact hspo) h
  rw [hsl] at hpok
  have HLEN := hid hlen0
  have HPOK := hid hpok
  have HCH := hid (fun (x : World) (hx : Below (((w.alloc (.cells #[.string s, .bool lines] 75)).alloc (.cells #[.int .i64 p.op, .int .u64 p.set.a, .int .u64 p.set.b, .int .u64 p.set.c, .int .u64 p.set.d, .int .i64 p.lo, .int .i64 p.hi, .int .i64 p.gr, .slice (some ⟨bb, o, none⟩) 1 cap] 28))).heap.size ((w.alloc (.cells #[.string s, .bool lines] 75)).alloc (.cells #[.int .i64 p.op, .int .u64 p.set.a, .int .u64 p.set.b, .int .u64 p.set.c, .int .u64 p.set.d, .int .i64 p.lo, .int .i64 p.hi, .int .i64 p.gr, .slice (some ⟨bb, o, none⟩) 1 cap] 28)) x) => HX0 x _ sa sc sp i HXI.out hok.2.2.2.2.1 hszz (hbw.trans ((hT.2.2.trans (hx.mono hT.2.2.size)).mono hbw.size)) ((hsp.below hT.2.2).below hx) hspo hi)
  have HX1 := hid (fun (x : World) (hx : Grow (((w.alloc (.cells #[.string s, .bool lines] 75)).alloc (.cells #[.int .i64 p.op, .int .u64 p.set.a, .int .u64 p.set.b, .int .u64 p.set.c, .int .u64 p.set.d, .int .i64 p.lo, .int .i64 p.hi, .int .i64 p.gr, .slice (some ⟨bb, o, none⟩) 1 cap] 28))).drew x) => HXC.out.below (hT.2.2.trans ((grow_below hx).mono hT.2.2.size)))
  have HC := hid (fun (x : World) (hx : Grow (((w.alloc (.cells #[.string s, .bool lines] 75)).alloc (.cells #[.int .i64 p.op, .int .u64 p.set.a, .int .u64 p.set.b, .int .u64 p.set.c, .int .u64 p.set.d, .int .i64 p.lo, .int .i64 p.hi, .int .i64 p.gr, .slice (some ⟨bb, o, none⟩) 1 cap] 28))).drew x) => (⟨(HT.out.later (grow_below hx)).text, ((HT.out.later (grow_below hx)).2.1).c9⟩ : _ ∧ _))
  clear hT hsp hspo hsl hok hok2 hwf hgr hbw hall hIn2 hlen0 hpok
  have e1 : (p.op == 1) = false := by rw [HO.out]; decide
  have e2 : (p.op == 2) = false := by rw [HO.out]; decide
  have e7 : (p.op == 7) = false := by rw [HO.out]; decide
  have e8 : (p.op == 8) = false := by rw [HO.out]; decide
  have e9 : (p.op == 9) = false := by rw [HO.out]; decide
  have e6 : (p.op == 6) = true := by rw [HO.out]; decide
  clear hop
  obtain ⟨r, hr⟩ : ∃ r, r = parses s.data.toList lines x0 i sp := ⟨_, rfl⟩
  rw [← hr] at HCH HPA HLEN HPOK
  clear hr
  go_enter Try.func31, Try.ntmps31
  go_wp2_with fail
  refine wp_region_two 7 13 rfl (Grow) (by kernel_rfl) (by kernel_rfl) (Grow.refl) (fun _ _ _ => Grow.trans) ?_
  simp only [fill, dstOf, Act.put, List.take_succ_cons, List.take_zero, List.getElem?_toArray, List.getElem?_cons_zero, List.getElem?_cons_succ, Option.bind_some, List.setIfInBounds_toArray, List.set_cons_zero, List.set_cons_succ]
  refine Plan.det 1 rfl (Grow.refl) ?_
  apply Exists.intro
  refine ⟨fun vs x hR hF K hK => ?_, ?_⟩
  · have hc := HC.out x hR; clear hF
    go_simp
    exact hK _ _ (Grow.refl _) rfl
  refine Plan.det 2 rfl (Grow.refl) ?_
  apply Exists.intro
  refine ⟨fun vs x hR hF K hK => ?_, ?_⟩
  · clear hF
    go_simp
    exact hK _ _ (Grow.refl _) rfl
  refine Plan.det 3 rfl (Grow.refl) ?_
  apply Exists.intro
  refine ⟨fun vs x hR hF K hK => ?_, ?_⟩
  · have f1 := hF 0 _ _ rfl rfl; have hc := HC.out x hR; clear hF
    go_simp
    exact hK _ _ (Grow.refl _) rfl
  refine Plan.det 4 rfl (Grow.refl) ?_
  apply Exists.intro
  refine ⟨fun vs x hR hF K hK => ?_, ?_⟩
  · have f2 := hF 0 _ _ rfl rfl; clear hF
    go_simp
    exact hK _ _ (Grow.refl _) rfl
  refine Plan.det 5 rfl (Grow.refl) ?_
  apply Exists.intro
  refine ⟨fun vs x hR hF K hK => ?_, ?_⟩
  · have f3 := hF 0 _ _ rfl rfl; have hc := HC.out x hR; clear hF
    rw [if_pos (show Region.wanted _ _ = true from rfl)]
    refine gives_load_agg 28 _ rfl bb o f3 _ _ (HX1.out _ hR) Try.underlying28 rfl (size_re9 _ _ _ _ _ _ _ _ _) ?_
    exact hK _ _ (Grow.refl _) rfl
  refine Plan.det 6 rfl (Grow.refl) ?_
  apply Exists.intro
  refine ⟨fun vs x hR hF K hK => ?_, ?_⟩
  · clear hF
    go_simp
    exact hK _ _ (Grow.refl _) rfl
  refine Plan.det 7 rfl (Grow.refl) ?_
  apply Exists.intro
  refine ⟨fun vs x hR hF K hK => ?_, ?_⟩
  · clear hF
    go_simp
    exact hK _ _ (Grow.refl _) rfl
  refine PlanEnd (by simp) (fun vs x hR hF => ?_)
  have f0 := hF 6 _ _ rfl; have f1 := hF 5 _ _ rfl; have f2 := hF 4 _ _ rfl; have f3 := hF 3 _ _ rfl; have f4 := hF 2 _ _ rfl; have f5 := hF 1 _ _ rfl; have f6 := hF 0 _ _ rfl
  clear hF
  simp only [f0, f1, f2, f3, f4, f5, f6]
  clear f0 f1 f2 f3 f4 f5 f6
  intro oo hoo KQ hK
  obtain rfl := Option.some.inj hoo
  clear hoo
  have HBX := hid (grow_below hR)
  clear HX1 hR
  go_simp
  refine (HCH.out _ HBX.out).mono ?_
  rintro e w' ⟨a9, l9, c9, rfl, hb9, h9, h9n⟩
  have HT9 := hid (HT.out.later (HBX.out.trans (hb9.mono HBX.out.size)))
  have HR9 := hid (And.intro h9 h9n)
  have hz9' := HBX.out.size
  clear hb9 h9 h9n
  refine ⟨_, rfl, hK _ _ ?_⟩
  clear hK
  unfold AfterC
  simp only [fill, dstOf, Act.put, List.getElem?_toArray, List.getElem?_cons_zero, List.getElem?_cons_succ, Option.bind_some, List.setIfInBounds_toArray, List.set_cons_zero, List.set_cons_succ, List.drop_succ_cons, List.drop_zero]
  refine Plan.det 9 rfl (fun _ => rfl) ?_
  apply Exists.intro
  refine ⟨fun vs x hR hF K hK => ?_, ?_⟩
  · have f7 := hF 0 _ _ rfl rfl; clear hF
    go_simp
    exact hK _ _ rfl rfl
  refine Plan.det 10 rfl (fun _ => rfl) ?_
  apply Exists.intro
  refine ⟨fun vs x hR hF K hK => ?_, ?_⟩
  · have f8 := hF 0 _ _ rfl rfl; clear hF
    go_simp
    exact hK _ _ rfl rfl
  refine Plan.det 11 rfl (fun _ => rfl) ?_
  apply Exists.intro
  refine ⟨fun vs x hR hF K hK => ?_, ?_⟩
  · have f8 := hF 1 _ _ rfl rfl; clear hF
    go_simp
    exact hK _ _ rfl rfl
  refine Plan.det 12 rfl (fun _ => rfl) ?_
  apply Exists.intro
  refine ⟨fun vs x hR hF K hK => ?_, ?_⟩
  · have f7 := hF 3 _ _ rfl rfl; have f8 := hF 2 _ _ rfl rfl; have f9 := hF 1 _ _ rfl rfl; clear hF
    go_simp
    exact hK _ _ rfl rfl
  refine Plan.det 13 rfl (fun _ => rfl) ?_
  apply Exists.intro
  refine ⟨fun vs x hR hF K hK => ?_, ?_⟩
  · have f7 := hF 4 _ _ rfl rfl; have f8 := hF 3 _ _ rfl rfl; have f9 := hF 2 _ _ rfl rfl; have f10 := hF 1 _ _ rfl rfl; have f11 := hF 0 _ _ rfl rfl; clear hF
    go_simp
    exact hK _ _ rfl rfl
  refine Plan.nil (fun vs x hR2 hF => ?_)
  have f7 := hF 5 _ _ rfl; have f8 := hF 4 _ _ rfl; have f9 := hF 3 _ _ rfl; have f10 := hF 2 _ _ rfl; have f11 := hF 1 _ _ rfl; have f12 := hF 0 _ _ rfl
  clear hF
  simp only [f7, f8, f9, f10, f11, f12]
  clear f7 f8 f9 f10 f11 f12
  subst hR2
  simp only [List.drop_succ_cons, List.drop_nil]
  clear HC q0 q1 HBX HCH
  cases r with
  | none =>
    obtain ⟨rfl, rfl, rfl⟩ := HR9.out.2 rfl
    simp only [Option.isSome_none]
    go_wp2_with fail
    go_ret2
    exact ⟨none, 0, 0, by rw [HPA.out]; rfl, HT9.out.2.2, fun l hl => (by rw [HPA.out] at hl; cases hl), fun _ => ⟨rfl, rfl, rfl⟩⟩
  | some l =>
    obtain ⟨rfl, hps⟩ := HR9.out.1 l rfl
    have hl4 := HLEN.out l rfl
    have HPS := hid hps
    obtain ⟨n, hnn⟩ : ∃ n, n = l.length := ⟨_, rfl⟩
    have HNN := hid hnn
    rw [← hnn] at HPS hl4 ⊢
    clear hps hnn HR9 HLEN
    simp only [Option.isSome_some]
    go_wp2_with fail
    go_loopw [10, 14] (fun v10 v14 wr => ∃ (j : Nat) (a : Option Addr) (m c : Nat), v10 = .slice a m c ∧ v14 = .int .i64 j ∧ j ≤ n ∧ Hid (GrpL w s lines [.int .i64 p.op, .int .u64 p.set.a, .int .u64 p.set.b, .int .u64 p.set.c, .int .u64 p.set.d, .int .i64 p.lo, .int .i64 p.hi, .int .i64 p.gr, .slice (some ⟨bb, o, none⟩) 1 cap] ((l.take j).map (fun q : Parse => (q.1, q.2.set (p.gr.toNat - 1) ((i : Int), (q.1 : Int))))) a m c wr ∧ PsQ (fun b => (Value.slice a m c).ownBlock ≠ some b) wr (.slice a9 n c9) l)) (fun _ v14 _ => n - (intOf v14).toNat)
    case atStart =>
      exact ⟨0, none, 0, 0, rfl, rfl, Nat.zero_le _, ⟨rfl, OwnP.nil _ _, HT9.out⟩, HPS.out.mono fun b _ hb => by simp [Value.ownBlock]⟩
    case round =>
      obtain ⟨j, a, m, c, rfl, rfl, hj, HX⟩ := hrel
      obtain ⟨⟨h0, h1, h2⟩, h3⟩ := HX.out
      have q0 := h2.text
      have q1 := h2.2.1.c9
      by_cases hlt : j < n
      · have hltI : (j : Int) < (n : Int) := by omega
        obtain ⟨b, cc, u1, u2, ua, uc, hq, ev, hb, hbp, -, p0, p1, hsq⟩ := h3.get (k := j) (by have := HNN.out; omega)
        injection ev with e1 e2 e3
        subst e1; subst e3
        clear e2
        have hmem : (u1, u2) ∈ l := List.mem_of_getElem? hq
        have hpk := HPOK.out l rfl (u1, u2) hmem
        have hu1 : u1 ≤ s.size := hpk.2.1
        have hul : u2.length ≤ 9 := by have := hpk.2.2.1; dsimp only at this; omega
        have HG := hid (⟨h0, h1, h2, h3⟩ : _ ∧ _ ∧ _ ∧ _)
        have HSQ := hid hsq
        have hml : m ≤ 100000 := by
          have := nub_le ((l.take j).map (fun q : Parse => (q.1, q.2.set (p.gr.toNat - 1) ((i : Int), (q.1 : Int)))))
          rw [List.length_map, List.length_take] at this
          omega
        have HALL : Hid (∀ q, q ∈ (u1, u2.set (p.gr.toNat - 1) ((i : Int), (u1 : Int))) :: nub ((l.take j).map (fun q : Parse => (q.1, q.2.set (p.gr.toNat - 1) ((i : Int), (q.1 : Int))))) → q.2.length ≤ 9 ∧ q.1 ≤ 1000000) := by
          intro q hq
          rcases List.mem_cons.1 hq with rfl | hq
          · exact ⟨by rw [List.length_set]; exact hul, by show u1 ≤ _; omega⟩
          · obtain ⟨q0, hq0, rfl⟩ := List.mem_map.1 (nub_mem.1 hq)
            have h4 := HPOK.out l rfl q0 (List.mem_of_mem_take hq0)
            have h5 := h4.2.1
            have h6 := h4.2.2.1
            exact ⟨by rw [List.length_set]; omega, by show q0.1 ≤ _; omega⟩
        have HST : Hid (addP (nub ((l.take j).map (fun q : Parse => (q.1, q.2.set (p.gr.toNat - 1) ((i : Int), (q.1 : Int)))))) (u1, u2.set (p.gr.toNat - 1) ((i : Int), (u1 : Int))) = nub ((l.take (j + 1)).map (fun q : Parse => (q.1, q.2.set (p.gr.toNat - 1) ((i : Int), (q.1 : Int)))))) := by
          show _ = _
          rw [List.take_add_one, hq, List.map_append, ← nub_snoc]
          rfl
        have HWI := hid (fun (x : World) (hx : Grow wr.drew x) => rwith_int x (.slice ua u2.length uc) u2 p.gr (i : Int) (u1 : Int) (HSQ.out.below (grow_below hx)) hul hg9)
        have hbb2 := hb
        have HC0 := hid (⟨p0, p1, hb⟩ : _ ∧ _ ∧ _)
        have HC := hid (fun (x : World) (hx : Grow wr.drew x) => (⟨((grow_below hx).cell (p := ⟨b, j * 2, none⟩) HC0.out.2.2).trans HC0.out.1, ((grow_below hx).cell (p := ⟨b, j * 2 + 1, none⟩) HC0.out.2.2).trans HC0.out.2.1, ((HG.out.2.2.1.later (grow_below hx)).2.1).c9⟩ : _ ∧ _ ∧ _))
        clear h0 h1 h2 h3 hsq hmem hpk hq hbp p0 p1
        go_wp2_with fail
        refine wp_region_two 20 22 rfl (Grow) (by kernel_rfl) (by kernel_rfl) (Grow.refl) (fun _ _ _ => Grow.trans) ?_
        simp only [fill, dstOf, Act.put, List.take_succ_cons, List.take_zero, List.getElem?_toArray, List.getElem?_cons_zero, List.getElem?_cons_succ, Option.bind_some, List.setIfInBounds_toArray, List.set_cons_zero, List.set_cons_succ]
        refine Plan.det 1 rfl (Grow.refl) ?_
        apply Exists.intro
        refine ⟨fun vs x hR hF K hK => ?_, ?_⟩
        · clear hF
          go_simp
          exact hK _ _ (Grow.refl _) rfl
        refine Plan.det 2 rfl (Grow.refl) ?_
        apply Exists.intro
        refine ⟨fun vs x hR hF K hK => ?_, ?_⟩
        · clear hF
          go_simp
          exact hK _ _ (Grow.refl _) rfl
        refine Plan.det 3 rfl (Grow.refl) ?_
        apply Exists.intro
        refine ⟨fun vs x hR hF K hK => ?_, ?_⟩
        · clear hF
          go_simp
          exact hK _ _ (Grow.refl _) rfl
        refine Plan.det 4 rfl (Grow.refl) ?_
        apply Exists.intro
        refine ⟨fun vs x hR hF K hK => ?_, ?_⟩
        · have f1 := hF 1 _ _ rfl rfl; have f2 := hF 0 _ _ rfl rfl; clear hF
          go_simp
          exact hK _ _ (Grow.refl _) rfl
        refine Plan.det 5 rfl (Grow.refl) ?_
        apply Exists.intro
        refine ⟨fun vs x hR hF K hK => ?_, ?_⟩
        · have f3 := hF 0 _ _ rfl rfl; clear hF
          go_simp
          exact hK _ _ (Grow.refl _) rfl
        refine Plan.det 6 rfl (Grow.refl) ?_
        apply Exists.intro
        refine ⟨fun vs x hR hF K hK => ?_, ?_⟩
        · have f4 := hF 0 _ _ rfl rfl; have hc := HC.out x hR; clear hF
          go_simp
          exact hK _ _ (Grow.refl _) rfl
        refine Plan.det 7 rfl (Grow.refl) ?_
        apply Exists.intro
        refine ⟨fun vs x hR hF K hK => ?_, ?_⟩
        · clear hF
          go_simp
          exact hK _ _ (Grow.refl _) rfl
        refine Plan.det 8 rfl (Grow.refl) ?_
        apply Exists.intro
        refine ⟨fun vs x hR hF K hK => ?_, ?_⟩
        · clear hF
          go_simp
          exact hK _ _ (Grow.refl _) rfl
        refine Plan.det 9 rfl (Grow.refl) ?_
        apply Exists.intro
        refine ⟨fun vs x hR hF K hK => ?_, ?_⟩
        · have f6 := hF 1 _ _ rfl rfl; have f7 := hF 0 _ _ rfl rfl; clear hF
          go_simp
          exact hK _ _ (Grow.refl _) rfl
        refine Plan.det 10 rfl (Grow.refl) ?_
        apply Exists.intro
        refine ⟨fun vs x hR hF K hK => ?_, ?_⟩
        · have f8 := hF 0 _ _ rfl rfl; clear hF
          go_simp
          exact hK _ _ (Grow.refl _) rfl
        refine Plan.det 11 rfl (Grow.refl) ?_
        apply Exists.intro
        refine ⟨fun vs x hR hF K hK => ?_, ?_⟩
        · have f9 := hF 0 _ _ rfl rfl; have hc := HC.out x hR; clear hF
          go_simp
          exact hK _ _ (Grow.refl _) rfl
        refine Plan.det 12 rfl (Grow.refl) ?_
        apply Exists.intro
        refine ⟨fun vs x hR hF K hK => ?_, ?_⟩
        · clear hF
          go_simp
          exact hK _ _ (Grow.refl _) rfl
        refine Plan.det 13 rfl (Grow.refl) ?_
        apply Exists.intro
        refine ⟨fun vs x hR hF K hK => ?_, ?_⟩
        · have f11 := hF 0 _ _ rfl rfl; have hc := HC.out x hR; clear hF
          go_simp
          exact hK _ _ (Grow.refl _) rfl
        refine Plan.det 14 rfl (Grow.refl) ?_
        apply Exists.intro
        refine ⟨fun vs x hR hF K hK => ?_, ?_⟩
        · clear hF
          go_simp
          exact hK _ _ (Grow.refl _) rfl
        refine Plan.det 15 rfl (Grow.refl) ?_
        apply Exists.intro
        refine ⟨fun vs x hR hF K hK => ?_, ?_⟩
        · clear hF
          go_simp
          exact hK _ _ (Grow.refl _) rfl
        refine Plan.det 16 rfl (Grow.refl) ?_
        apply Exists.intro
        refine ⟨fun vs x hR hF K hK => ?_, ?_⟩
        · clear hF
          go_simp
          exact hK _ _ (Grow.refl _) rfl
        refine Plan.det 17 rfl (Grow.refl) ?_
        apply Exists.intro
        refine ⟨fun vs x hR hF K hK => ?_, ?_⟩
        · have f14 := hF 1 _ _ rfl rfl; have f15 := hF 0 _ _ rfl rfl; clear hF
          go_simp
          exact hK _ _ (Grow.refl _) rfl
        refine Plan.det 18 rfl (Grow.refl) ?_
        apply Exists.intro
        refine ⟨fun vs x hR hF K hK => ?_, ?_⟩
        · have f16 := hF 0 _ _ rfl rfl; clear hF
          go_simp
          exact hK _ _ (Grow.refl _) rfl
        refine Plan.det 19 rfl (Grow.refl) ?_
        apply Exists.intro
        refine ⟨fun vs x hR hF K hK => ?_, ?_⟩
        · have f17 := hF 0 _ _ rfl rfl; have hc := HC.out x hR; clear hF
          go_simp
          exact hK _ _ (Grow.refl _) rfl
        refine Plan.rel 20 rfl (Grow.refl) (fun v y => ∃ (a2 : Option Addr) (c2 : Nat), v = .slice a2 u2.length c2 ∧ SpQ y (.slice a2 u2.length c2) (u2.set (p.gr.toNat - 1) ((i : Int), (u1 : Int)))) (fun v y z hR ⟨a1, c1, h1, h2⟩ => ⟨a1, c1, h1, h2.below hR⟩) (fun vs x hR hF K hK => ?_) ?_
        · have f10 := hF 8 _ _ rfl rfl; have f12 := hF 6 _ _ rfl rfl; have f13 := hF 5 _ _ rfl rfl; have f18 := hF 0 _ _ rfl rfl
          go_simp
          refine (HWI.out x hR).mono ?_
          rintro e x1 ⟨a2, c2, rfl, hbe, h1⟩
          exact ⟨_, rfl, hK _ _ hbe ⟨a2, c2, rfl, h1⟩⟩
        refine PlanEnd (by simp) (fun vs x hR hF => ?_)
        have f0 := hF 19 _ _ rfl; have f1 := hF 18 _ _ rfl; have f2 := hF 17 _ _ rfl; have f3 := hF 16 _ _ rfl; have f4 := hF 15 _ _ rfl; have f5 := hF 14 _ _ rfl; have f6 := hF 13 _ _ rfl; have f7 := hF 12 _ _ rfl; have f8 := hF 11 _ _ rfl; have f9 := hF 10 _ _ rfl; have f10 := hF 9 _ _ rfl; have f11 := hF 8 _ _ rfl; have f12 := hF 7 _ _ rfl; have f13 := hF 6 _ _ rfl; have f14 := hF 5 _ _ rfl; have f15 := hF 4 _ _ rfl; have f16 := hF 3 _ _ rfl; have f17 := hF 2 _ _ rfl; have f18 := hF 1 _ _ rfl; have f19 := hF 0 _ _ rfl
        clear hF
        simp only [f0, f1, f2, f3, f4, f5, f6, f7, f8, f9, f10, f11, f12, f13, f14, f15, f16, f17, f18]
        clear f0 f1 f2 f3 f4 f5 f6 f7 f8 f9 f10 f11 f12 f13 f14 f15 f16 f17 f18
        intro oo hoo KQ hK
        obtain rfl := Option.some.inj hoo
        clear hoo
        obtain ⟨a2, c2, ev2, hs2⟩ := f19
        simp only [ev2]
        clear ev2
        have HBX := hid (grow_below hR)
        have HS2 := hid hs2
        clear hR hs2
        go_simp
        refine (radd_any x w.heap.size (.slice a m c) (.slice a2 u2.length c2) (nub ((l.take j).map (fun q : Parse => (q.1, q.2.set (p.gr.toNat - 1) ((i : Int), (q.1 : Int)))))) u1 (u2.set (p.gr.toNat - 1) ((i : Int), (u1 : Int))) (HG.out.2.1.below HBX.out) HS2.out (by rw [← HG.out.1]; exact hml) (Nat.le_trans HG.out.2.2.1.2.2.size HBX.out.size) HALL.out).mono ?_
        rw [HST.out]
        rintro e w' ⟨a3, c3, rfl, ho3, hg3, hn3⟩
        have HZ : Hid (GrpL w s lines [.int .i64 p.op, .int .u64 p.set.a, .int .u64 p.set.b, .int .u64 p.set.c, .int .u64 p.set.d, .int .i64 p.lo, .int .i64 p.hi, .int .i64 p.gr, .slice (some ⟨bb, o, none⟩) 1 cap] ((l.take (j + 1)).map (fun q : Parse => (q.1, q.2.set (p.gr.toNat - 1) ((i : Int), (q.1 : Int))))) a3 (nub ((l.take (j + 1)).map (fun q : Parse => (q.1, q.2.set (p.gr.toNat - 1) ((i : Int), (q.1 : Int)))))).length c3 w' ∧ PsQ (fun b => (Value.slice a3 (nub ((l.take (j + 1)).map (fun q : Parse => (q.1, q.2.set (p.gr.toNat - 1) ((i : Int), (q.1 : Int)))))).length c3).ownBlock ≠ some b) w' (.slice (some ⟨b, 0, none⟩) n c9) l) := ⟨⟨rfl, ho3, (HG.out.2.2.1.later HBX.out).grown (HG.out.2.1.below HBX.out) hg3⟩, (HG.out.2.2.2.below HBX.out).grown (HG.out.2.1.below HBX.out) hg3 fun b1 hb1 hp1 => ⟨hp1, fun e => (hn3 b1 e).elim hp1 (fun h5 => by omega)⟩⟩
        obtain ⟨m3, hm3⟩ : ∃ m3, m3 = (nub ((l.take (j + 1)).map (fun q : Parse => (q.1, q.2.set (p.gr.toNat - 1) ((i : Int), (q.1 : Int)))))).length := ⟨_, rfl⟩
        rw [← hm3] at HZ ⊢
        clear ho3 hg3 hn3 hm3
        refine ⟨_, rfl, hK _ _ ?_⟩
        clear hK
        unfold AfterC
        simp only [fill, dstOf, Act.put, List.getElem?_toArray, List.getElem?_cons_zero, List.getElem?_cons_succ, Option.bind_some, List.setIfInBounds_toArray, List.set_cons_zero, List.set_cons_succ, List.drop_succ_cons, List.drop_zero]
        refine Plan.det 22 rfl (fun _ => rfl) ?_
        apply Exists.intro
        refine ⟨fun vs x hR hF K hK => ?_, ?_⟩
        · have f20 := hF 0 _ _ rfl rfl; clear hF
          go_simp
          exact hK _ _ rfl rfl
        refine Plan.nil (fun vs x hR2 hF => ?_)
        have f20 := hF 1 _ _ rfl; have f21 := hF 0 _ _ rfl
        clear hF
        simp only [f20, f21]
        clear f20 f21
        subst hR2
        simp only [List.drop_succ_cons, List.drop_nil]
        clear HC q0 q1
        go_wp2_with fail
        refine ⟨⟨j + 1, a3, m3, c3, rfl, by go_num, by omega, HZ.out⟩, ?_⟩
        simp [intOf] <;> omega
      · obtain rfl : j = n := by omega
        have hltI : ¬ (j : Int) < (j : Int) := by omega
        have HG := hid (⟨h0, h1, h2⟩ : _ ∧ _ ∧ _)
        clear h0 h1 h2 h3
        have hps := HG.out.2.1.psq
        have hm := HG.out.1
        have htk : l.take j = l := by rw [HNN.out]; exact List.take_length
        rw [htk] at hm hps
        have HPS2 := hid hps
        have HM := hid hm
        have hle : (nub (l.map (fun q : Parse => (q.1, q.2.set (p.gr.toNat - 1) ((i : Int), (q.1 : Int)))))).length ≤ 100000 := by
          have := nub_le (l.map (fun q : Parse => (q.1, q.2.set (p.gr.toNat - 1) ((i : Int), (q.1 : Int)))))
          rw [List.length_map] at this
          have := HNN.out
          omega
        clear hps hm htk
        go_wp2_with fail
        refine (rdone_any _ _ _ (nub (l.map (fun q : Parse => (q.1, q.2.set (p.gr.toNat - 1) ((i : Int), (q.1 : Int)))))) (l.map (fun q : Parse => (q.1, q.2.set (p.gr.toNat - 1) ((i : Int), (q.1 : Int))))) s lines rfl HPS2.out hle hs).mono ?_
        rintro e w2 hr
        obtain ⟨a2, n2, c2, b2, rfl, HRR⟩ := hr.on HG.out.2.2.2.2 HPA.out.symm
        clear hr
        go_wp2_with fail
        go_ret2
        exact HRR.out
end Go.Proofs.Ythnpbopnpdlmnaa
