/- The program of layer 9: a visit of a repetition. -/
import Derived.Test.YthnpbopnpdlmnaaDoorA36
import Derived.Deep.RegionLaw
import Derived.Deep.RegionWith
namespace Go.Proofs.YthnpbopnpdlmnaaDoor
open Go.RowKit
attribute [local go_sem] gives givesUpon givesPan givesUponP

section
variable {ops : Array Oper} {rest : List Oper} {o : Oper} {a : Act} {Q : Exit → Act → World → Prop} {w : World} {M : Nat} {seen : List Sit}
theorem wpList_lookup_sit (hgd : o.guard = none) (x y : Operand) (ho : o.op = .lookup 103 x y false) (h : KSet encS w M (seen.map sitK))
    (hx : a.eval x = .map (some M)) (c i : Nat) (sp : Spans) (KS : ByteArray) (hks : strV (keyB (i, sp)) = .string KS) (hy : a.eval y = .agg #[.int .i64 c, .string KS]) (d : Bool) (hd : decide ((c, i, sp) ∈ seen) = d)
    (hn : wpList Tryd.prog ops Q rest (a.put o.dst (.bool d)) w) : wpList Tryd.prog ops Q (o :: rest) a w := by
  have he : decide (sitK (c, i, sp) ∈ seen.map sitK) = d := by rw [← hd]; exact decide_eq_decide.2 sitK_mem
  refine wpList_lookup_kset hgd _ x y ho h hx (sitK (c, i, sp)) (by rw [hy, ← hks]; rfl) 106 4 Tryd.underlying103 KeyLaw.sit (by kernel_rfl) ?_
  rw [he]; exact hn
theorem wpList_update_sit (hgd : o.guard = none) (x y z : Operand) (ho : o.op = .mapUpdate 103 x y z) (h : KSet encS w M (seen.map sitK))
    (hx : a.eval x = .map (some M)) (c i : Nat) (sp : Spans) (KS : ByteArray) (hks : strV (keyB (i, sp)) = .string KS) (hy : a.eval y = .agg #[.int .i64 c, .string KS]) (hnk : (c, i, sp) ∉ seen) (hz : a.eval z = .bool true)
    (hn : ∀ w', KSet encS w' M (seen.map sitK ++ [sitK (c, i, sp)]) → But [M] w w' → wpList Tryd.prog ops Q rest (a.put o.dst undef) w') : wpList Tryd.prog ops Q (o :: rest) a w :=
  wpList_update_kset hgd _ x y z ho h hx (sitK (c, i, sp)) (by rw [hy, ← hks]; rfl) (fun h => hnk (sitK_mem.1 h)) hz 106 4 Tryd.underlying103 KeyLaw.sit hn
theorem wpList_len_sit (hgd : o.guard = none) (x : Operand) (ho : o.op = .call { callee := .builtin .len, args := #[x], argTypes := #[103] }) (h : KSet encS w M (seen.map sitK))
    (hx : a.eval x = .map (some M)) (n : Int) (hl : (seen.length : Int) = n) (hn : wpList Tryd.prog ops Q rest (a.put o.dst (.int .i64 n)) w) : wpList Tryd.prog ops Q (o :: rest) a w := by
  refine wpList_len_kset hgd x 103 106 4 Tryd.underlying103 ho h hx ?_
  rw [List.length_map, hl]; exact hn
end
set_option maxRecDepth 100000 in
set_option maxHeartbeats 32000000 in
theorem pvisit_any (wb : World) (N : Nat) (hN : N ≤ 9) (s : ByteArray) (hs : s.size ≤ 1000000) (lines : Bool) (p : Pay) (x0 : Re) (bb o cap : Nat) (hop : p.op = 5) (HX0 : PPar wb N s lines x0) (hIn : (Re.mk p [x0]).In wb [.int .i64 p.op, .int .u64 p.set.a, .int .u64 p.set.b, .int .u64 p.set.c, .int .u64 p.set.d, .int .i64 p.lo, .int .i64 p.hi, .int .i64 p.gr, .slice (some ⟨bb, o, none⟩) 1 cap]) (hok : (Re.mk p [x0]).ok N) (hsz : (Re.mk p [x0]).size ≤ 20) (hlo : 0 ≤ p.lo ∧ p.lo ≤ 1000) (hhi : -1 ≤ p.hi ∧ p.hi ≤ 1000) (ht : Tabs9 wb) (M RB SB MB VB OB SM : Nat) (hwb : wb.heap.size ≤ SM ∧ wb.heap.size ≤ OB) :
    ∀ (f : Nat) (w : World) (ov : Value) (seen : List Sit) (out : List Parse) (c0 i : Nat) (sa : Option Addr) (sc : Nat) (sp : Spans), RpAt s lines [.int .i64 p.op, .int .u64 p.set.a, .int .u64 p.set.b, .int .u64 p.set.c, .int .u64 p.set.d, .int .i64 p.lo, .int .i64 p.hi, .int .i64 p.gr, .slice (some ⟨bb, o, none⟩) 1 cap] M RB SB MB VB OB SM ov seen out w → Below wb.heap.size wb w → StOk N s.size (seen, out) → SpQ w (.slice sa sp.length sc) sp → SpOk N s.size sp → i ≤ s.size → c0 ≤ 1001 → 4097 ≤ f + seen.length →
    Calls Tryd.prog 56 #[.int .i64 c0, .agg #[.int .i64 i, .slice sa sp.length sc], .pointer (some ⟨RB, 0, none⟩), .pointer (some ⟨SB, 0, none⟩), .pointer (some ⟨MB, 0, none⟩), .pointer (some ⟨VB, 0, none⟩), .pointer (some ⟨OB, 0, none⟩)] w (VisPostP N s lines [.int .i64 p.op, .int .u64 p.set.a, .int .u64 p.set.b, .int .u64 p.set.c, .int .u64 p.set.d, .int .i64 p.lo, .int .i64 p.hi, .int .i64 p.gr, .slice (some ⟨bb, o, none⟩) 1 cap] M RB SB MB VB OB SM ov seen.length w (visit p (withinAll [x0]) (firstP s.data.toList lines [x0]) f (c0, i, sp) (seen, out))) := by
  intro f
  induction f with
  | zero => intro w ov seen out c0 i sa sc sp h hbw hst hsp hspo hi hc0 hf; have := hst.2.1; dsimp only at this; omega
  | succ f ih =>
    intro w ov seen out c0 i sa sc sp h hbw hst hsp hspo hi hc0 hf
    have hb1 : Below w.heap.size w (w.alloc (.cells #[.int .i64 i, .slice sa sp.length sc] 71)) := (Below.refl _ _).alloc (Nat.le_refl _) _
    have HB1 := hid hb1
    have HRP := hid (h.later hb1)
    have HR := hid (Row.new (w := w) (cs := [.int .i64 i, .slice sa sp.length sc]) (T := 71) rfl)
    have HS := hid (hsp.below hb1)
    have HBW := hid hbw
    have HST := hid hst
    have HSO := hid hspo
    have HIH := hid ih
    have HIN := hid hIn
    have HOK := hid hok
    have HCHILD := hid HX0
    have HW := hid h
    have HF := hid hf
    have HWB := hid hwb
    have HOP := hid hop
    have HTB := hid ht
    have hspl : sp.length ≤ 9 := by have := hspo.1; omega
    have hov : ∃ va vn vc, ov = .slice va vn vc := by obtain ⟨a, c, e⟩ := h.2.2.2.form; exact ⟨_, _, _, e⟩
    have hseenl : seen.length ≤ 4096 := hst.2.1
    obtain ⟨ua, un, uc, rfl⟩ := hov
    have hcl : ∃ c : Nat, c ≤ 1001 ∧ Hid (c = if p.hi < 0 ∧ p.lo < (c0 : Int) then p.lo.toNat else c0) ∧ (((p.hi == -1) = true ∧ min (c0 : Int) p.lo = (c : Int)) ∨ ((p.hi == -1) = false ∧ Hid (c0 = c))) := by
      by_cases h2 : p.hi < 0
      · have h3 : p.hi = -1 := by omega
        by_cases h1 : p.lo < (c0 : Int)
        · refine ⟨p.lo.toNat, by omega, ?_, .inl ⟨by simp [h3], by omega⟩⟩
          show _ = _
          rw [if_pos ⟨h2, h1⟩]
        · refine ⟨c0, by omega, ?_, .inl ⟨by simp [h3], by omega⟩⟩
          show _ = _
          rw [if_neg (fun h => h1 h.2)]
      · refine ⟨c0, by omega, ?_, .inr ⟨beq_eq_false_iff_ne.2 (by omega), rfl⟩⟩
        show _ = _
        rw [if_neg (fun h => h2 h.1)]
    obtain ⟨c, hc1, HCL, hcl⟩ := hcl
    have HOWN : Hid (∀ g, (Value.slice ua un uc).ownBlock = some g → g < w.heap.size) := fun g hg => (h.2.2.2.lt g hg).2
    have q0 := HRP.out.1.2.1.c9
    clear h hbw hst hsp hspo ih hIn hok HX0 hb1 hf hwb hop ht
    go_enter Tryd.func56, Tryd.ntmps56
    apply wp_seq_k
    intro K0 hK0
    have HK0 := hid hK0
    clear hK0
    go_wp2_with fail
    refine HK0.out _ _ ?_
    clear HK0
    apply wp_seq_k
    intro K1 hK1
    go_cut [0] from 9 (fun (v : Value) (y : World) => v = .int .i64 c ∧ y = (w.alloc (.cells #[.int .i64 i, .slice sa sp.length sc] 71)))
    case first =>
      rcases hcl with ⟨d1, d2⟩ | ⟨d1, HCC⟩
      all_goals
        go_wp2_with fail
        go_meet
        first
        | exact ⟨rfl, rfl⟩
        | (rw [HCC.out]; exact ⟨rfl, rfl⟩)
    clear hcl q0
    obtain ⟨rfl, hwy⟩ := hcut
    have HY : Hid (RpAt s lines [.int .i64 p.op, .int .u64 p.set.a, .int .u64 p.set.b, .int .u64 p.set.c, .int .u64 p.set.d, .int .i64 p.lo, .int .i64 p.hi, .int .i64 p.gr, .slice (some ⟨bb, o, none⟩) 1 cap] M RB SB MB VB OB SM (.slice ua un uc) seen out wc ∧ Row wc w.heap.size [.int .i64 i, .slice sa sp.length sc] 71 ∧ Below w.heap.size w wc ∧ SpQ wc (.slice sa sp.length sc) sp) := by rw [hwy]; exact ⟨HRP.out, HR.out, HB1.out, HS.out⟩
    clear hwy HRP HR HB1 HS
    generalize wc = y at HY ⊢
    have hfq : PFine (i, sp) := POk.fine (⟨Nat.zero_le _, hi, HSO.out⟩ : POk N s.size 0 (i, sp)) hN hs
    have HTY : Hid (Tabs9 y) := HTB.out.on (HBW.out.trans (HY.out.2.2.1.mono HBW.out.size))
    have HKEY := hid (pkey_any y (i, sp) sa sc HY.out.2.2.2 hfq.1 hfq.2.1 hfq.2.2 HTY.out)
    obtain ⟨KS, hKS⟩ : ∃ KS : ByteArray, strV (keyB (i, sp)) = .string KS := ⟨_, rfl⟩
    rw [hKS] at HKEY
    have HKS2 := hid hKS
    have q1 := HY.out.2.1.two9
    clear hfq hKS
    refine hK1 _ _ ?_
    clear hK1
    go_wp2_with fail
    refine HKEY.out.mono ?_
    rintro e z ⟨rfl, hbz⟩
    have hal : Below z.heap.size z (z.alloc (.cells #[.int .i64 c, .string KS] 106)) := (Below.refl _ _).alloc (Nat.le_refl _) _
    have hz1 : RpAt s lines [.int .i64 p.op, .int .u64 p.set.a, .int .u64 p.set.b, .int .u64 p.set.c, .int .u64 p.set.d, .int .i64 p.lo, .int .i64 p.hi, .int .i64 p.gr, .slice (some ⟨bb, o, none⟩) 1 cap] M RB SB MB VB OB SM (.slice ua un uc) seen out z ∧ Row z w.heap.size [.int .i64 i, .slice sa sp.length sc] 71 ∧ Below w.heap.size w z ∧ SpQ z (.slice sa sp.length sc) sp := ⟨HY.out.1.later hbz, HY.out.2.1.below hbz HY.out.2.1.lt, HY.out.2.2.1.trans (hbz.mono HY.out.2.2.1.size), HY.out.2.2.2.below hbz⟩
    have HZ := hid (⟨hz1.1.later hal, hz1.2.1.below hal hz1.2.1.lt, hz1.2.2.1.trans (hal.mono hz1.2.2.1.size), hz1.2.2.2.below hal, Row.new (w := z) (cs := [.int .i64 c, .string KS]) (T := 106) rfl⟩ : RpAt s lines [.int .i64 p.op, .int .u64 p.set.a, .int .u64 p.set.b, .int .u64 p.set.c, .int .u64 p.set.d, .int .i64 p.lo, .int .i64 p.hi, .int .i64 p.gr, .slice (some ⟨bb, o, none⟩) 1 cap] M RB SB MB VB OB SM (.slice ua un uc) seen out (z.alloc (.cells #[.int .i64 c, .string KS] 106)) ∧ Row (z.alloc (.cells #[.int .i64 c, .string KS] 106)) w.heap.size [.int .i64 i, .slice sa sp.length sc] 71 ∧ Below w.heap.size w (z.alloc (.cells #[.int .i64 c, .string KS] 106)) ∧ SpQ (z.alloc (.cells #[.int .i64 c, .string KS] 106)) (.slice sa sp.length sc) sp ∧ Row (z.alloc (.cells #[.int .i64 c, .string KS] 106)) z.heap.size _ _)
    clear hbz hal hz1 HKEY HY HTY q1
    have q0 := HZ.out.1.1.2.2.2.1.cell 0
    have q1 := HZ.out.2.2.2.2.two9
    have HVB := hid (visit_body p (withinAll [x0]) (firstP s.data.toList lines [x0]) f c0 i sp seen out c HCL.out)
    have HKS := hid HZ.out.1.2.1
    by_cases hm : (c, i, sp) ∈ seen
    · have hd : decide ((c, i, sp) ∈ seen) = true := decide_eq_true hm
      have HD := hid hd
      have HV : Hid (visit p (withinAll [x0]) (firstP s.data.toList lines [x0]) (f + 1) (c0, i, sp) (seen, out) = some (seen, out)) := by show _ = _; rw [HVB.out, if_pos hm]
      clear hm hd
      go_wp2_with (with_reducible (refine wpList_lookup_sit rfl _ _ rfl HKS.out rfl c i sp KS HKS2.out rfl true HD.out ?_))
      go_end0
      rw [HV.out]
      exact ⟨_, FrP.of_below HZ.out.2.2.1, rfl, HZ.out.1, HST.out, Nat.le_refl _⟩
    have hd : decide ((c, i, sp) ∈ seen) = false := decide_eq_false hm
    have HD := hid hd
    have HM := hid hm
    clear hm hd
    go_upto_region 6 with (first
      | (with_reducible (refine wpList_lookup_sit rfl _ _ rfl HKS.out rfl c i sp KS HKS2.out rfl false HD.out ?_))
      | (with_reducible (refine wpList_update_sit rfl _ _ _ rfl HKS.out rfl c i sp KS HKS2.out rfl HM.out rfl ?_); intro w5 hks5 hb5))
    rename_i K7 hK7 K6 hK6
    have HK6 := hid hK6
    have HK7 := hid hK7
    clear hK6 hK7
    have hpu := HZ.out.1.push hks5 hb5
    have HZ5 : Hid (VisP N s lines [.int .i64 p.op, .int .u64 p.set.a, .int .u64 p.set.b, .int .u64 p.set.c, .int .u64 p.set.d, .int .i64 p.lo, .int .i64 p.hi, .int .i64 p.gr, .slice (some ⟨bb, o, none⟩) 1 cap] M RB SB MB VB OB SM w (.slice ua un uc) seen.length i (.slice sa sp.length sc) sp (seen ++ [(c, i, sp)], out) (.slice ua un uc) w5) := by
      refine ⟨hpu.1, HZ.out.2.1.but hb5 (fun hm => by have h9 := HZ.out.2.1; rw [List.mem_singleton.1 hm] at h9; exact HKS.out.row h9), (FrP.of_below HZ.out.2.2.1).trans hpu.2, HZ.out.1.span hpu.2 HZ.out.2.2.2.1, fun e => by have := HOWN.out _ e; omega, fun hm1 => ⟨fun q hq => ?_, ?_, ?_, HST.out.2.2.2⟩, by simp, Nat.lt_of_lt_of_le (Nat.lt_of_lt_of_le HZ.out.2.1.lt (Nat.le_refl _)) hb5.size⟩
      · rcases List.mem_append.1 hq with hq | hq
        · exact HST.out.1 q hq
        · have := List.mem_singleton.1 hq; subst this; exact hspl
      · simp; omega
      · have := HST.out.2.2.1; simp at this ⊢; omega
    clear hpu hks5 hb5 HZ HKS HD q0 q1
    have q0 := HZ5.out.1.1.2.2.2.1.cell 0
    have HKL := hid HZ5.out.1.2.1
    have hll : ((seen ++ [(c, i, sp)]).length : Int) = (seen.length : Int) + 1 := by simp
    have HLL := hid hll
    clear hll
    by_cases hlen : most < seen.length + 1
    · have HV : Hid (visit p (withinAll [x0]) (firstP s.data.toList lines [x0]) (f + 1) (c0, i, sp) (seen, out) = none) := by show _ = _; rw [HVB.out, if_neg HM.out, if_pos hlen]
      have hli : (4096 : Int) < (seen.length : Int) + 1 := by unfold most at hlen; omega
      clear hlen
      go_wp2_with (with_reducible (refine wpList_len_sit rfl _ rfl HKL.out rfl _ HLL.out ?_))
      refine HK6.out _ _ ?_
      go_wp2_with fail
      refine And.intro rfl ?_
      rw [HV.out]
      exact ⟨_, HZ5.out.2.2.1, rfl⟩
    have HV : Hid (visit p (withinAll [x0]) (firstP s.data.toList lines [x0]) (f + 1) (c0, i, sp) (seen, out) = (vfold p (withinAll [x0]) (firstP s.data.toList lines [x0]) f c i sp seen out).bind fun st => some (vend p c i sp st)) := by show _ = _; rw [HVB.out, if_neg HM.out, if_neg hlen]
    have hli : ¬ (4096 : Int) < (seen.length : Int) + 1 := by unfold most at hlen; omega
    have hmn : seen.length + 1 ≤ 4096 := by unfold most at hlen; omega
    clear hlen HVB
    go_wp2_with (with_reducible (refine wpList_len_sit rfl _ rfl HKL.out rfl _ HLL.out ?_))
    refine HK6.out _ _ ?_
    go_wp2_with fail
    refine HK7.out _ _ ?_
    clear HK6 HK7 hli HKL HLL q0
    apply wp_seq_k
    intro K8 hK8
    go_cut [] from 9 (fun (y' : World) => ∃ (ov' : Value) (st' : List Sit × List Parse), Hid (vfold p (withinAll [x0]) (firstP s.data.toList lines [x0]) f c i sp seen out = some st') ∧ VisP N s lines [.int .i64 p.op, .int .u64 p.set.a, .int .u64 p.set.b, .int .u64 p.set.c, .int .u64 p.set.d, .int .i64 p.lo, .int .i64 p.hi, .int .i64 p.gr, .slice (some ⟨bb, o, none⟩) 1 cap] M RB SB MB VB OB SM w (.slice ua un uc) seen.length i (.slice sa sp.length sc) sp st' ov' y')
    case first =>
      clear hK8
      apply wp_seq_k
      intro K9 hK9
      have q0 := HZ5.out.1.1.2.1.c9
      go_cut [41] from 9 (fun (v : Value) (y' : World) => v = .bool (decide (p.hi < 0 ∨ (c : Int) < p.hi)) ∧ y' = w5)
      case first =>
        have hdd : ((p.hi == -1) = true ∧ Hid (decide (p.hi < 0 ∨ (c : Int) < p.hi) = true)) ∨ ((p.hi == -1) = false ∧ ((decide ((c : Int) < p.hi) = true ∧ Hid (decide (p.hi < 0 ∨ (c : Int) < p.hi) = true)) ∨ (decide ((c : Int) < p.hi) = false ∧ Hid (decide (p.hi < 0 ∨ (c : Int) < p.hi) = false)))) := by
          unfold Hid
          by_cases h1 : p.hi < 0
          · have h3 : p.hi = -1 := by omega
            exact .inl ⟨by simp [h3], by simp [h1]⟩
          · have h3 : ¬ p.hi = -1 := by omega
            refine .inr ⟨beq_eq_false_iff_ne.2 h3, ?_⟩
            by_cases h2 : (c : Int) < p.hi <;> simp [h1, h2]
        rcases hdd with ⟨d1, HD⟩ | ⟨d1, ⟨d2, HD⟩ | ⟨d2, HD⟩⟩
        all_goals
          go_wp2_with fail
          go_meet
          rw [HD.out]
          exact ⟨rfl, rfl⟩
      obtain ⟨rfl, hw5⟩ := hcut
      subst hw5
      clear q0
      refine hK9 _ _ ?_
      clear hK9
      generalize wc = z5 at HZ5 ⊢
      by_cases hgo : p.hi < 0 ∨ (c : Int) < p.hi
      case neg =>
        rw [decide_eq_false hgo]
        have HVF : Hid (vfold p (withinAll [x0]) (firstP s.data.toList lines [x0]) f c i sp seen out = some (seen ++ [(c, i, sp)], out)) := by show _ = _; unfold vfold; rw [if_neg hgo]
        clear hgo
        go_wp2_with fail
        go_meet
        exact ⟨_, _, HVF.out, HZ5.out⟩
      rw [decide_eq_true hgo]
      have HVF : Hid (vfold p (withinAll [x0]) (firstP s.data.toList lines [x0]) f c i sp seen out = (firstP s.data.toList lines [x0] i (unset sp (withinAll [x0]))).bind fun l => l.foldlM (vstep p (withinAll [x0]) (firstP s.data.toList lines [x0]) f c i) (seen ++ [(c, i, sp)], out)) := by show _ = _; unfold vfold; rw [if_pos hgo]
      have hc9 : c ≤ 1000 := by
        have hcl9 := HCL.out
        split at hcl9 <;> omega
      clear hgo
      have hszz : x0.size ≤ 20 := by have h9 := hsz; rw [Re.size_mk] at h9; have h1 : Re.sizes [x0] = x0.size + 0 := rfl; omega
      have hok0 : x0.ok N := by have h9 := HOK.out; rw [Re.ok, Re.oks] at h9; exact h9.2.2.2.2.1
      have hall2 := HIN.out
      rw [Re.In] at hall2
      obtain ⟨ad, cap2, he, -, -, -, -, hall⟩ := hall2
      have hbz : Below wb.heap.size wb z5 := HBW.out.trans (HW.out.low HZ5.out.2.2.1 HWB.out.1 HWB.out.2)
      have hk := hall.kid hbz 0 (by simp)
      obtain ⟨bb', o', p', ad', n', cap', e', HXC, HXI, hbb⟩ := hk
      simp only [Pay.cells, List.cons.injEq, Value.slice.injEq, true_and, and_true, List.length_cons, List.length_nil] at he
      obtain ⟨he1, he2⟩ := he
      rw [← he1] at e'
      injection e' with e'
      injection e' with e1 e2
      subst e1
      subst e2
      clear he1 he2 hall
      have HBZ := hid hbz
      have hspN : sp.length = N := HSO.out.1
      have hwo : withinOf (.mk p [x0]) = withinAll [x0] := by rw [withinOf, if_neg (by rw [HOP.out]; decide)]; rfl
      have HCR : Hid (∀ (x : World), Grow z5.drew x → Calls Tryd.prog 57 #[.agg #[.int .i64 p.op, .int .u64 p.set.a, .int .u64 p.set.b, .int .u64 p.set.c, .int .u64 p.set.d, .int .i64 p.lo, .int .i64 p.hi, .int .i64 p.gr, .slice (some ⟨bb, o, none⟩) 1 cap], .slice sa sp.length sc] x fun e w' => ∃ a c, e = .returned (.slice a sp.length c) ∧ Below x.heap.size x w' ∧ SpQ w' (.slice a sp.length c) (unset sp (withinAll [x0]))) := by
        intro x hx
        have hbx := HBZ.out.trans ((grow_below hx).mono HBZ.out.size)
        have h9 := pcleared_any wb N hN (.mk p [x0]) x [.int .i64 p.op, .int .u64 p.set.a, .int .u64 p.set.b, .int .u64 p.set.c, .int .u64 p.set.d, .int .i64 p.lo, .int .i64 p.hi, .int .i64 p.gr, .slice (some ⟨bb, o, none⟩) 1 cap] sa sc sp HIN.out HOK.out hbx hspN (by rw [← hspN]; exact HZ5.out.2.2.2.1.below (grow_below hx)) (HTB.out.on hbx)
        rw [← hspN, hwo] at h9
        exact h9
      have hsl : s.data.toList.length = s.size := by rw [Array.length_toList]; rfl
      obtain ⟨r, hr⟩ : ∃ r, r = firstP s.data.toList lines [x0] i (unset sp (withinAll [x0])) := ⟨_, rfl⟩
      have hrp : r = parses s.data.toList lines x0 i (unset sp (withinAll [x0])) := by rw [hr, firstP]
      have hsu : SpOk N s.size (unset sp (withinAll [x0])) := SpOk.unset _ HSO.out
      have HCH : Hid (∀ (x : World) (ua : Option Addr) (uc : Nat), Below z5.heap.size z5 x → SpQ x (.slice ua sp.length uc) (unset sp (withinAll [x0])) → Calls Tryd.prog 37 #[.pointer (some ⟨M, 0, none⟩), .agg #[.int .i64 p'.op, .int .u64 p'.set.a, .int .u64 p'.set.b, .int .u64 p'.set.c, .int .u64 p'.set.d, .int .i64 p'.lo, .int .i64 p'.hi, .int .i64 p'.gr, .slice ad' n' cap'], .int .i64 i, .slice ua sp.length uc] x (ParP x r)) := by
        intro x ua uc hx hu
        have hbx := HBZ.out.trans (hx.mono HBZ.out.size)
        have h9 := HCHILD.out x [.int .i64 p'.op, .int .u64 p'.set.a, .int .u64 p'.set.b, .int .u64 p'.set.c, .int .u64 p'.set.d, .int .i64 p'.lo, .int .i64 p'.hi, .int .i64 p'.gr, .slice ad' n' cap'] M ua uc (unset sp (withinAll [x0])) i HXI.out hok0 hszz hbx (HZ5.out.1.1.1.below hx HZ5.out.1.1.1.lt) (by rw [unset_len]; exact hu) hsu hi (HTB.out.on hbx)
        rw [unset_len, ← hrp] at h9
        exact h9
      have HLEN : Hid (∀ l, r = some l → l.length ≤ 4096) := fun l h => parses_len hok0 (by rw [hsl]; exact hi) (by rw [hsl]; exact hsu) (hrp.symm.trans h)
      have hpok := fun l (h : r = some l) => parses_ok s.data.toList lines N x0 i (unset sp (withinAll [x0])) l hok0 (by rw [hsl]; exact hi) (by rw [hsl]; exact hsu) (hrp.symm.trans h)
      rw [hsl] at hpok
      have HPOK := hid hpok
      have HX1 := hid (fun (x : World) (hx : Grow z5.drew x) => HXC.out.below (grow_below hx))
      have HC := hid (fun (x : World) (hx : Grow z5.drew x) => (⟨(HZ5.out.later (grow_below hx)).1.1.2.2.1.cell 0, (HZ5.out.later (grow_below hx)).1.1.2.1.c9, (HZ5.out.later (grow_below hx)).2.1.two9⟩ : _ ∧ _ ∧ _))
      rw [← hr] at HVF
      clear hszz hok0 hbz hbb hwo hsl hr hrp hsu hpok hspN
      go_upto_region 9 with fail
      cases r with
      | none =>
        have HV0 : Hid (visit p (withinAll [x0]) (firstP s.data.toList lines [x0]) (f + 1) (c0, i, sp) (seen, out) = none) := by show _ = _; rw [HV.out, HVF.out]; rfl
        refine wp_region_panQ 11 [13] (Grow) (by kernel_rfl) (by kernel_rfl) (Grow.refl) (fun _ _ _ => Grow.trans) ?_ ?hfree
        case hfree =>
          intro i hi o ho vs x hR
          simp only [fill, dstOf, Act.put, List.take_succ_cons, List.take_zero, List.getElem?_toArray, List.getElem?_cons_zero, List.getElem?_cons_succ, Option.bind_some, List.setIfInBounds_toArray, List.set_cons_zero, List.set_cons_succ, List.length_cons, List.length_nil, Nat.reduceAdd]
          obtain rfl := List.mem_singleton.1 hi
          obtain rfl := Option.some.inj ho
          refine StepOf.of (Grow.refl x) fun K hK => ?_
          go_simp
          exact hK _ _ (Grow.refl _) trivial
        simp only [fill, dstOf, Act.put, List.take_succ_cons, List.take_zero, List.getElem?_toArray, List.getElem?_cons_zero, List.getElem?_cons_succ, Option.bind_some, List.setIfInBounds_toArray, List.set_cons_zero, List.set_cons_succ, List.length_cons, List.length_nil, Nat.reduceAdd]
        refine PlanP.det 1 rfl (Grow.refl) ?_
        apply Exists.intro
        refine ⟨fun vs x hR hF K hK => ?_, ?_⟩
        · have hc := HC.out x hR; clear hF
          go_simp
          exact hK _ _ (Grow.refl _) rfl
        refine PlanP.det 2 rfl (Grow.refl) ?_
        apply Exists.intro
        refine ⟨fun vs x hR hF K hK => ?_, ?_⟩
        · clear hF
          go_simp
          exact hK _ _ (Grow.refl _) rfl
        refine PlanP.det 3 rfl (Grow.refl) ?_
        apply Exists.intro
        refine ⟨fun vs x hR hF K hK => ?_, ?_⟩
        · have f1 := hF 0 _ _ rfl rfl; have hc := HC.out x hR; clear hF
          go_simp
          exact hK _ _ (Grow.refl _) rfl
        refine PlanP.det 4 rfl (Grow.refl) ?_
        apply Exists.intro
        refine ⟨fun vs x hR hF K hK => ?_, ?_⟩
        · have f2 := hF 0 _ _ rfl rfl; clear hF
          go_simp
          exact hK _ _ (Grow.refl _) rfl
        refine PlanP.det 5 rfl (Grow.refl) ?_
        apply Exists.intro
        refine ⟨fun vs x hR hF K hK => ?_, ?_⟩
        · have f3 := hF 0 _ _ rfl rfl; have hc := HC.out x hR; clear hF
          rw [if_pos (show Region.wanted _ _ = true from rfl)]
          refine gives_load_agg 28 _ rfl bb o f3 _ _ (HX1.out _ hR) Tryd.underlying28 rfl (size_re9 _ _ _ _ _ _ _ _ _) ?_
          exact hK _ _ (Grow.refl _) rfl
        refine PlanP.det 6 rfl (Grow.refl) ?_
        apply Exists.intro
        refine ⟨fun vs x hR hF K hK => ?_, ?_⟩
        · clear hF
          go_simp
          exact hK _ _ (Grow.refl _) rfl
        refine PlanP.det 7 rfl (Grow.refl) ?_
        apply Exists.intro
        refine ⟨fun vs x hR hF K hK => ?_, ?_⟩
        · have f5 := hF 0 _ _ rfl rfl; have hc := HC.out x hR; clear hF
          go_simp
          exact hK _ _ (Grow.refl _) rfl
        refine PlanP.det 8 rfl (Grow.refl) ?_
        apply Exists.intro
        refine ⟨fun vs x hR hF K hK => ?_, ?_⟩
        · have hc := HC.out x hR; clear hF
          go_simp
          exact hK _ _ (Grow.refl _) rfl
        refine PlanP.det 9 rfl (Grow.refl) ?_
        apply Exists.intro
        refine ⟨fun vs x hR hF K hK => ?_, ?_⟩
        · clear hF
          go_simp
          exact hK _ _ (Grow.refl _) rfl
        refine PlanP.det 10 rfl (Grow.refl) ?_
        apply Exists.intro
        refine ⟨fun vs x hR hF K hK => ?_, ?_⟩
        · have f8 := hF 0 _ _ rfl rfl; have hc := HC.out x hR; clear hF
          go_simp
          exact hK _ _ (Grow.refl _) rfl
        refine PlanP.rel 11 rfl (Grow.refl) (fun v y => ∃ (a2 : Option Addr) (c2 : Nat), v = .slice a2 sp.length c2 ∧ SpQ y (.slice a2 sp.length c2) (unset sp (withinAll [x0]))) (fun v y z hR ⟨a1, c1, h1, h2⟩ => ⟨a1, c1, h1, h2.below hR⟩) (fun vs x hR hF K hK => ?_) ?_
        · have f7 := hF 2 _ _ rfl rfl; have f9 := hF 0 _ _ rfl rfl
          go_simp
          refine (HCR.out x hR).mono ?_
          rintro e x1 ⟨a2, c2, rfl, hbe, h1⟩
          exact ⟨_, rfl, hK _ _ hbe ⟨a2, c2, rfl, h1⟩⟩
        refine PlanP.nil (fun vs x hR hF => ?_)
        have f0 := hF 10 _ _ rfl rfl; have f4 := hF 6 _ _ rfl rfl; have f6 := hF 4 _ _ rfl rfl; have f10 := hF 0 _ _ rfl rfl
        clear hF
        intro oo hoo KQ hK
        obtain rfl := Option.some.inj hoo
        clear hoo
        simp only [f0, f4, f6]
        clear f0 f4 f6
        obtain ⟨a2, c3, ev2, hs2⟩ := f10
        simp only [ev2]
        clear ev2
        have HBX := hid (grow_below hR)
        have HS2 := hid hs2
        clear HX1 hR hs2
        go_simp
        refine (HCH.out _ a2 c3 HBX.out HS2.out).mono ?_
        rintro e z6 ⟨hb6, rfl⟩
        refine ⟨_, rfl, hK _ _ fun A hA => ?_⟩
        clear hK
        refine And.intro hA ?_
        show VisPostP _ _ _ _ _ _ _ _ _ _ _ _ _ _ _ (.panicked exh) z6
        rw [HV0.out]
        exact ⟨_, HZ5.out.2.2.1.trans (FrP.of_below (HBX.out.trans (hb6.mono HBX.out.size))), rfl⟩
      | some l =>
        refine wp_region_inv 14 (Grow) (by kernel_rfl) (by kernel_rfl) (Grow.refl) (fun _ _ _ => Grow.trans) ?_
        simp only [fill, dstOf, Act.put, List.take_succ_cons, List.take_zero, List.getElem?_toArray, List.getElem?_cons_zero, List.getElem?_cons_succ, Option.bind_some, List.setIfInBounds_toArray, List.set_cons_zero, List.set_cons_succ]
        refine Plan.det 1 rfl (Grow.refl) ?_
        apply Exists.intro
        refine ⟨fun vs x hR hF K hK => ?_, ?_⟩
        · have hc := HC.out x hR; clear hF
          go_simp
          exact hK _ _ (Grow.refl _) rfl
        refine Plan.det 2 rfl (Grow.refl) ?_
        apply Exists.intro
        refine ⟨fun vs x hR hF K hK => ?_, ?_⟩
        · clear hF
          go_simp
          exact hK _ _ (Grow.refl _) rfl
        refine Plan.det 3 rfl (Grow.refl) ?_
        apply Exists.intro
        refine ⟨fun vs x hR hF K hK => ?_, ?_⟩
        · have f1 := hF 0 _ _ rfl rfl; have hc := HC.out x hR; clear hF
          go_simp
          exact hK _ _ (Grow.refl _) rfl
        refine Plan.det 4 rfl (Grow.refl) ?_
        apply Exists.intro
        refine ⟨fun vs x hR hF K hK => ?_, ?_⟩
        · have f2 := hF 0 _ _ rfl rfl; clear hF
          go_simp
          exact hK _ _ (Grow.refl _) rfl
        refine Plan.det 5 rfl (Grow.refl) ?_
        apply Exists.intro
        refine ⟨fun vs x hR hF K hK => ?_, ?_⟩
        · have f3 := hF 0 _ _ rfl rfl; have hc := HC.out x hR; clear hF
          rw [if_pos (show Region.wanted _ _ = true from rfl)]
          refine gives_load_agg 28 _ rfl bb o f3 _ _ (HX1.out _ hR) Tryd.underlying28 rfl (size_re9 _ _ _ _ _ _ _ _ _) ?_
          exact hK _ _ (Grow.refl _) rfl
        refine Plan.det 6 rfl (Grow.refl) ?_
        apply Exists.intro
        refine ⟨fun vs x hR hF K hK => ?_, ?_⟩
        · clear hF
          go_simp
          exact hK _ _ (Grow.refl _) rfl
        refine Plan.det 7 rfl (Grow.refl) ?_
        apply Exists.intro
        refine ⟨fun vs x hR hF K hK => ?_, ?_⟩
        · have f5 := hF 0 _ _ rfl rfl; have hc := HC.out x hR; clear hF
          go_simp
          exact hK _ _ (Grow.refl _) rfl
        refine Plan.det 8 rfl (Grow.refl) ?_
        apply Exists.intro
        refine ⟨fun vs x hR hF K hK => ?_, ?_⟩
        · have hc := HC.out x hR; clear hF
          go_simp
          exact hK _ _ (Grow.refl _) rfl
        refine Plan.det 9 rfl (Grow.refl) ?_
        apply Exists.intro
        refine ⟨fun vs x hR hF K hK => ?_, ?_⟩
        · clear hF
          go_simp
          exact hK _ _ (Grow.refl _) rfl
        refine Plan.det 10 rfl (Grow.refl) ?_
        apply Exists.intro
        refine ⟨fun vs x hR hF K hK => ?_, ?_⟩
        · have f8 := hF 0 _ _ rfl rfl; have hc := HC.out x hR; clear hF
          go_simp
          exact hK _ _ (Grow.refl _) rfl
        refine Plan.rel 11 rfl (Grow.refl) (fun v y => ∃ (a2 : Option Addr) (c2 : Nat), v = .slice a2 sp.length c2 ∧ SpQ y (.slice a2 sp.length c2) (unset sp (withinAll [x0]))) (fun v y z hR ⟨a1, c1, h1, h2⟩ => ⟨a1, c1, h1, h2.below hR⟩) (fun vs x hR hF K hK => ?_) ?_
        · have f7 := hF 2 _ _ rfl rfl; have f9 := hF 0 _ _ rfl rfl
          go_simp
          refine (HCR.out x hR).mono ?_
          rintro e x1 ⟨a2, c2, rfl, hbe, h1⟩
          exact ⟨_, rfl, hK _ _ hbe ⟨a2, c2, rfl, h1⟩⟩
        refine Plan.rel 12 rfl (Grow.refl) (fun v y => ∃ (a9 : Option Addr) (c9 : Nat), v = .slice a9 l.length c9 ∧ PsQ (fun b => (Value.slice ua un uc).ownBlock ≠ some b) y (.slice a9 l.length c9) l) (fun v y z hR ⟨a1, c1, h1, h2⟩ => ⟨a1, c1, h1, h2.below hR⟩) (fun vs x hR hF K hK => ?_) ?_
        · have f0 := hF 10 _ _ rfl rfl; have f4 := hF 6 _ _ rfl rfl; have f6 := hF 4 _ _ rfl rfl; have f10 := hF 0 _ _ rfl rfl
          obtain ⟨a2, c3, ev2, hs2⟩ := f10
          simp only [ev2] at *
          have HBX := hid (grow_below hR)
          go_simp
          refine (HCH.out _ a2 c3 HBX.out hs2).mono ?_
          rintro e z6 ⟨hb6, a9, c9, rfl, hps⟩
          exact ⟨_, rfl, hK _ _ hb6 ⟨a9, c9, rfl, hps.mono fun b _ hb e => by have := (HZ5.out.1.2.2.2.lt _ e).2; have h8 := HBX.out.size; omega⟩⟩
        refine Plan.det 13 rfl (Grow.refl) ?_
        apply Exists.intro
        refine ⟨fun vs x hR hF K hK => ?_, ?_⟩
        · have f11 := hF 0 _ _ rfl rfl; clear hF
          obtain ⟨a9, c9, e9, _⟩ := f11
          simp only [e9]
          go_simp
          exact hK _ _ (Grow.refl _) rfl
        refine Plan.det 14 rfl (Grow.refl) ?_
        apply Exists.intro
        refine ⟨fun vs x hR hF K hK => ?_, ?_⟩
        · clear hF
          go_simp
          exact hK _ _ (Grow.refl _) rfl
        refine Plan.nil (fun vs x hR hF => ?_)
        have f0 := hF 13 _ _ rfl; have f1 := hF 12 _ _ rfl; have f2 := hF 11 _ _ rfl; have f3 := hF 10 _ _ rfl; have f4 := hF 9 _ _ rfl; have f5 := hF 8 _ _ rfl; have f6 := hF 7 _ _ rfl; have f7 := hF 6 _ _ rfl; have f8 := hF 5 _ _ rfl; have f9 := hF 4 _ _ rfl; have f10 := hF 3 _ _ rfl; have f11 := hF 2 _ _ rfl; have f12 := hF 1 _ _ rfl; have f13 := hF 0 _ _ rfl
        clear hF
        simp only [f0, f1, f2, f3, f4, f5, f6, f7, f8, f9, f12, f13]
        clear f0 f1 f2 f3 f4 f5 f6 f7 f8 f9 f12 f13
        simp only [List.drop_succ_cons, List.drop_zero]
        obtain ⟨a9, c9, e11, h11⟩ := f11
        have HV9 := hid (HZ5.out.later (grow_below hR))
        have HPS := hid h11
        simp only [e11]
        clear HC HCR HCH HX1 f10 h11 hR
        have hl4 := HLEN.out l rfl
        obtain ⟨n, hnn⟩ : ∃ n, n = l.length := ⟨_, rfl⟩
        have HNN := hid hnn
        rw [← hnn] at HPS hl4 ⊢
        have HVF2 : Hid (vfold p (withinAll [x0]) (firstP s.data.toList lines [x0]) f c i sp seen out = l.foldlM (vstep p (withinAll [x0]) (firstP s.data.toList lines [x0]) f c i) (seen ++ [(c, i, sp)], out)) := HVF.out
        clear hnn HLEN HVF
        generalize x = z6 at HV9 HPS ⊢
        go_wp2_with fail
        go_loopw [55] (fun v55 wr => ∃ (k : Nat) (ov' : Value) (st' : List Sit × List Parse), v55 = .int .i64 k ∧ k ≤ n ∧ Hid ((l.take k).foldlM (vstep p (withinAll [x0]) (firstP s.data.toList lines [x0]) f c i) (seen ++ [(c, i, sp)], out) = some st' ∧ VisP N s lines [.int .i64 p.op, .int .u64 p.set.a, .int .u64 p.set.b, .int .u64 p.set.c, .int .u64 p.set.d, .int .i64 p.lo, .int .i64 p.hi, .int .i64 p.gr, .slice (some ⟨bb, o, none⟩) 1 cap] M RB SB MB VB OB SM w (.slice ua un uc) seen.length i (.slice sa sp.length sc) sp st' ov' wr ∧ PsQ (fun b => ov'.ownBlock ≠ some b) wr (.slice a9 n c9) l)) (fun v55 _ => n - (intOf v55).toNat)
        case atStart => exact ⟨0, _, _, rfl, Nat.zero_le _, by rw [List.take_zero]; rfl, HV9.out, HPS.out⟩
        case round =>
          obtain ⟨k, ov1, ⟨se1, ou1⟩, rfl, hk, HX⟩ := hrel
          by_cases hlt : k < n
          · have hltI : (k : Int) < (n : Int) := by omega
            obtain ⟨b, cc, u1, u2, va2, vc2, hq, ev, hb, hbp, -, p0, p1, hsq⟩ := HX.out.2.2.get (k := k) (by have := HNN.out; omega)
            injection ev with e1 e2 e3
            subst e1; subst e3
            clear e2
            have hmem : (u1, u2) ∈ l := List.mem_of_getElem? hq
            have HPK := hid (HPOK.out l rfl (u1, u2) hmem)
            have hu1 : u1 ≤ s.size := HPK.out.2.1
            have hiu : i ≤ u1 := HPK.out.1
            have HQ := hid hq
            have hss : (u1 = i ∧ decide ((c : Int) < p.lo) = false ∧ Hid (vstep p (withinAll [x0]) (firstP s.data.toList lines [x0]) f c i (se1, ou1) (u1, u2) = some (se1, ou1))) ∨ (((i < u1 ∧ (i : Int) < (u1 : Int)) ∨ (u1 = i ∧ decide ((c : Int) < p.lo) = true)) ∧ Hid (vstep p (withinAll [x0]) (firstP s.data.toList lines [x0]) f c i (se1, ou1) (u1, u2) = visit p (withinAll [x0]) (firstP s.data.toList lines [x0]) f (c + 1, u1, u2) (se1, ou1))) := by
              unfold Hid vstep
              by_cases h1 : u1 = i
              · by_cases h2 : p.lo ≤ (c : Int)
                · exact .inl ⟨h1, by simp; omega, by rw [if_pos ⟨h1, h2⟩]⟩
                · exact .inr ⟨.inr ⟨h1, by simp; omega⟩, by rw [if_neg (fun h => h2 h.2)]⟩
              · exact .inr ⟨.inl ⟨by omega, by omega⟩, by rw [if_neg (fun h => h1 h.1)]⟩
            have hal : Below wr.heap.size wr (wr.alloc (.cells #[.int .i64 u1, .slice va2 u2.length vc2] 71)) := (Below.refl _ _).alloc (Nat.le_refl _) _
            have HY := hid (⟨HX.out.1, HX.out.2.1.later hal, HX.out.2.2.below hal, Row.new (w := wr) (cs := [.int .i64 u1, .slice va2 u2.length vc2]) (T := 71) rfl, hsq.below hal⟩ : _ ∧ VisP N s lines [.int .i64 p.op, .int .u64 p.set.a, .int .u64 p.set.b, .int .u64 p.set.c, .int .u64 p.set.d, .int .i64 p.lo, .int .i64 p.hi, .int .i64 p.gr, .slice (some ⟨bb, o, none⟩) 1 cap] M RB SB MB VB OB SM w (.slice ua un uc) seen.length i (.slice sa sp.length sc) sp (se1, ou1) ov1 (wr.alloc (.cells #[.int .i64 u1, .slice va2 u2.length vc2] 71)) ∧ PsQ (fun b => ov1.ownBlock ≠ some b) (wr.alloc (.cells #[.int .i64 u1, .slice va2 u2.length vc2] 71)) _ l ∧ Row (wr.alloc (.cells #[.int .i64 u1, .slice va2 u2.length vc2] 71)) wr.heap.size _ _ ∧ SpQ (wr.alloc (.cells #[.int .i64 u1, .slice va2 u2.length vc2] 71)) _ _)
            have q1 := HY.out.2.1.2.1.two9
            have q2 := HY.out.2.2.2.1.two9
            have q3 := HY.out.2.1.1.1.2.1.c9
            have q4 := HY.out.2.1.1.1.2.2.2.2.cell 0
            clear hsq hmem hq hbp hal HX
            rcases hss with ⟨rfl, d2, HSS⟩ | ⟨⟨d1, d1'⟩ | ⟨rfl, d2⟩, HSS⟩
            · go_wp2_with fail
              refine ⟨⟨k + 1, ov1, (se1, ou1), by go_num, by omega, ⟨by rw [foldlM_step HQ.out HY.out.1]; exact HSS.out, HY.out.2.1, HY.out.2.2.1⟩⟩, ?_⟩
              simp [intOf] <;> omega
            all_goals
              have hfl : 4097 ≤ f + se1.length := by have h7 := HY.out.2.1.2.2.2.2.2.2.1; have h8 := HF.out; dsimp only at h7; omega
              have hic := HIH.out (wr.alloc (.cells #[.int .i64 u1, .slice va2 u2.length vc2] 71)) ov1 se1 ou1 (c + 1) u1 va2 vc2 u2 HY.out.2.1.1 (HBW.out.trans (HW.out.low HY.out.2.1.2.2.1 HWB.out.1 HWB.out.2)) (HY.out.2.1.2.2.2.2.2.1 hmn) HY.out.2.2.2.2 HPK.out.2.2 HPK.out.2.1 (by omega) hfl
              obtain ⟨r2, hr2⟩ : ∃ r2, r2 = visit p (withinAll [x0]) (firstP s.data.toList lines [x0]) f (c + 1, u1, u2) (se1, ou1) := ⟨_, rfl⟩
              rw [← hr2] at HSS
              rw [← hr2] at hic
              clear hr2 hfl
              simp only [Int.natCast_add, Int.natCast_one] at hic
              have HIC := hid hic
              clear hic
              have hwr : IntKind.i64.wrap ((c : Int) + 1) = (c : Int) + 1 := by rw [IntKind.wrap_i64]; omega
              go_wp2_with fail
              refine HIC.out.mono ?_
              rintro e z ⟨ov2, hfr, hst⟩
              have HFR := hid hfr
              clear hfr q1 q2 q3 q4 p0 p1
              cases r2 with
              | none =>
                subst hst
                have hv0 := HV.out
                rw [HVF2.out, foldlM_none HQ.out HY.out.1 HSS.out] at hv0
                refine And.intro rfl ?_
                show VisPostP _ _ _ _ _ _ _ _ _ _ _ _ _ _ _ (.panicked exh) z
                rw [hv0]
                exact ⟨_, HY.out.2.1.2.2.1.trans HFR.out, rfl⟩
              | some st2 =>
                obtain ⟨rfl, hp⟩ := hst
                have HX3 := hid (And.intro ((foldlM_step HQ.out HY.out.1).trans HSS.out) (And.intro (HY.out.2.1.step HFR.out hp.1 hp.2.1 hp.2.2) (HY.out.2.1.1.ps HFR.out HY.out.2.2.1)))
                clear hp
                go_wp2_with fail
                refine ⟨⟨k + 1, ov2, st2, by go_num, by omega, HX3.out⟩, ?_⟩
                simp [intOf] <;> omega
          · obtain rfl : k = n := by omega
            have hltI : ¬ (k : Int) < (k : Int) := by omega
            have htk : l.take k = l := by rw [HNN.out]; exact List.take_length
            have HE : Hid (vfold p (withinAll [x0]) (firstP s.data.toList lines [x0]) f c i sp seen out = some (se1, ou1)) := by show _ = _; rw [HVF2.out, ← HX.out.1, htk]
            clear htk
            go_wp2_with fail
            go_meet
            exact ⟨ov1, (se1, ou1), HE.out, HX.out.2.1⟩
    obtain ⟨ov2, st2, HVF, hVA⟩ := hcut
    have HVA := hid hVA
    clear hVA HZ5 HIH HCHILD
    generalize wc = z at HVA ⊢
    have hv0 := HV.out
    rw [HVF.out] at hv0
    have hvl := vfold_len (visit_len f) HVF.out
    have hol : out.length ≤ seen.length := HST.out.2.2.1
    refine hK8 _ _ ?_
    clear hK8 HV HVF
    obtain ⟨oa, on, oc, rfl⟩ : ∃ oa on oc, ov2 = .slice oa on oc := by obtain ⟨a, c, e⟩ := HVA.out.1.2.2.2.form; exact ⟨_, _, _, e⟩
    obtain ⟨se2, ou2⟩ := st2
    have HOKS := hid (HVA.out.2.2.2.2.2.1 hmn)
    have hou : ou2.length ≤ 200000 := by have h1 := HOKS.out.2.1; have h2 := HOKS.out.2.2.1; dsimp only at h1 h2; omega
    have q0 := HVA.out.1.1.2.1.c9
    by_cases hle : p.lo ≤ (c : Int)
    · have hd : decide (p.lo ≤ (c : Int)) = true := by simp [hle]
      have hve : vend p c i sp (se2, ou2) = (se2, ou2 ++ [(i, sp)]) := by unfold vend; rw [if_pos hle]
      rw [Option.bind_some, hve] at hv0
      have HV0 := hid hv0
      have hvl2 : ou2.length + 1 ≤ se2.length := by dsimp only at hvl; omega
      clear hle hv0 hve hvl hol
      have q1 := HVA.out.2.1.two9
      have q2 := HVA.out.1.2.2.1.cell 0
      have f2 := HVA.out.1.2.2.1.free 0
      have hlt := HVA.out.1.2.2.1.lt
      have hal : Below z.heap.size z (z.alloc (.cells #[.int .i64 i, .slice sa sp.length sc] 71)) := (Below.refl _ _).alloc (Nat.le_refl _) _
      have HWZ := hid (HVA.out.later hal)
      have HAL := hid hal
      clear hal
      go_wp2_with (at_builtin; refine wpList_append_ps rfl _ _ rfl (OB + 1) _ ou2 [(i, sp)] _ _ rfl ?c0 rfl (PsQ.lit (Row.new (by simp)) ?c1) ?c2 ?c3 ?_)
      case c0 => exact HWZ.out.1.2.2.2
      case c1 => exact HWZ.out.2.2.2.1
      case c2 => simp; omega
      case c3 => simp; omega
      intro a2 n2 c2 w3 hn2 hown hg hnew
      have hX3 : Row w3 OB [.slice oa on oc] 39 := by
        obtain ⟨_, Lo, o1, o2, o3⟩ := HWZ.out.1.2.2.2
        exact HWZ.out.1.2.2.1.grownOwn o3 (by decide) hg
      have q3 := hX3.cell 0
      have f3 := hX3.free 0
      have hp := HWZ.out.1.newOut (HWZ.out.1.2.2.put hown hg (by simpa using hnew) rfl)
      have HN := hid (⟨hp.1, HWZ.out.2.2.1.trans hp.2⟩ : _ ∧ _)
      clear hX3 hp hn2 hown hg hnew q0 q1 q2 f2
      go_wp2_with fail
      go_end0
      rw [HV0.out]
      refine ⟨_, HN.out.2, rfl, HN.out.1, ⟨HOKS.out.1, HOKS.out.2.1, by simp; omega, fun q hq => ?_⟩, Nat.le_of_lt HVA.out.2.2.2.2.2.2.1⟩
      rcases List.mem_append.1 hq with hq | hq
      · exact HOKS.out.2.2.2 q hq
      · have := List.mem_singleton.1 hq
        subst this
        exact ⟨Nat.zero_le _, hi, HSO.out⟩
    · have hd : decide (p.lo ≤ (c : Int)) = false := by simp; omega
      have hve : vend p c i sp (se2, ou2) = (se2, ou2) := by unfold vend; rw [if_neg hle]
      rw [Option.bind_some, hve] at hv0
      have HV0 := hid hv0
      clear hle hv0 hve hvl hol
      go_wp2_with fail
      go_end0
      rw [HV0.out]
      exact ⟨_, HVA.out.2.2.1, rfl, HVA.out.1, HOKS.out, Nat.le_of_lt HVA.out.2.2.2.2.2.2.1⟩
end Go.Proofs.YthnpbopnpdlmnaaDoor
