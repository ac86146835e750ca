/- The law ReprogAgrees: borders, the end of a match, ends of parses. -/
import Derived.Test.YthnpbopnpdlmnaaDoorA17
import Derived.Test.YthnpbopnpdlmnaaDoorA18
import Derived.Test.YthnpbopnpdlmnaaDoorA21
import Derived.Test.YthnpbopnpdlmnaaDoorA02
import Derived.Test.YthnpbopnpdlmnaaDoorA11
import Derived.Deep.RegionWith
namespace Go.Proofs.YthnpbopnpdlmnaaDoor
open Go.RowKit
attribute [local go_sem] gives givesUpon

set_option maxHeartbeats 4000000 in
theorem border_any (w : World) (m : Sim) (str : ByteArray) (i : Nat) (en : Bool) (hs : m.s = str.data.toList) (hi : i ≤ str.size) (hl : str.size ≤ 1000000) :
    Calls Tryd.prog 25 #[.string str, .int .i64 i, .bool m.lines, .bool en] w fun e w' => e = .returned (.bool (if en = true then m.ends i else m.begins i)) ∧ w' = w := by
  cases en with
  | false =>
    have HV : Hid (m.begins i = (i == 0 || (m.lines && (m.byte (i - 1) == 10)))) := rfl
    have HB : Hid (0 < i → m.byte (i - 1) = (str[i - 1]!).toNat) := by
      intro h0
      rw [byte_eq hs (by omega)]
      congr 1
      rw [getElem!_pos str (i - 1) (by omega)]
    rw [if_neg (by decide)]
    generalize m.begins i = ans at *
    generalize m.lines = lines at *
    rcases Nat.eq_zero_or_pos i with rfl | h0
    · have ea : ans = true := by rw [HV.out]; rfl
      subst ea
      go_enter Tryd.func25, Tryd.ntmps25
      go_wp2_with fail
      all_goals go_ret
      all_goals exact ⟨rfl, rfl⟩
    · have d0 : ((i : Int) == 0) = false := by simp; omega
      have d1 : (i == 0) = false := by simp; omega
      have ea : ans = (lines && (m.byte (i - 1) == 10)) := by rw [HV.out, d1]; rfl
      rw [HB.out h0] at ea
      rcases Bool.eq_false_or_eq_true lines with rfl | rfl
      · obtain ⟨j, rfl⟩ : ∃ j, i = j + 1 := ⟨i - 1, by omega⟩
        rw [show j + 1 - 1 = j from rfl, getElem!_pos str j (by omega)] at ea
        have HA := hid ea
        clear HV HB ea
        have hj : (j : Int) < str.size := by omega
        go_enter Tryd.func25, Tryd.ntmps25
        go_wp2_with fail
        all_goals go_ret
        all_goals
          refine ⟨ret_bool ?_, rfl⟩
          rw [HA.out]
          first
            | (have e1 : ((j : Int) + 1 == 0) = false := by simp; omega
               rw [e1]
               exact Bool.eq_iff_iff.2 (by simp; omega))
            | exact Bool.eq_iff_iff.2 (by simp; omega)
      · have ea2 : ans = false := by rw [ea]; rfl
        subst ea2
        clear HV HB ea
        go_enter Tryd.func25, Tryd.ntmps25
        go_wp2_with fail
        all_goals go_ret
        all_goals exact ⟨rfl, rfl⟩
  | true =>
    have HV : Hid (m.ends i = (i == str.size || (m.lines && (m.byte i == 10)))) := by show _ = _; unfold Sim.ends; rw [size_eq hs]
    have HB : Hid (∀ h : i < str.size, m.byte i = (str[i]).toNat) := fun h => byte_eq hs h
    rw [if_pos rfl]
    generalize m.ends i = ans at *
    generalize m.lines = lines at *
    rcases Nat.lt_or_ge i str.size with h0 | h0
    · have d0 : ((i : Int) == (str.size : Int)) = false := by simp; omega
      have d1 : (i == str.size) = false := by simp; omega
      have ea : ans = (lines && (m.byte i == 10)) := by rw [HV.out, d1]; rfl
      rw [HB.out h0] at ea
      rcases Bool.eq_false_or_eq_true lines with rfl | rfl
      · have HA := hid ea
        clear HV HB ea
        have hj : (i : Int) < str.size := by omega
        go_enter Tryd.func25, Tryd.ntmps25
        go_wp2_with fail
        all_goals go_ret
        all_goals
          refine ⟨ret_bool ?_, rfl⟩
          rw [HA.out]
          exact Bool.eq_iff_iff.2 (by simp; omega)
      · have ea2 : ans = false := by rw [ea]; rfl
        subst ea2
        clear HV HB ea
        go_enter Tryd.func25, Tryd.ntmps25
        go_wp2_with fail
        all_goals go_ret
        all_goals exact ⟨rfl, rfl⟩
    · obtain rfl : i = str.size := by omega
      have ea : ans = true := by rw [HV.out]; simp
      subst ea
      have d0 : ((str.size : Int) == (str.size : Int)) = true := by simp
      go_enter Tryd.func25, Tryd.ntmps25
      go_wp2_with fail
      all_goals go_ret
      all_goals exact ⟨rfl, rfl⟩
set_option maxRecDepth 100000 in
set_option maxHeartbeats 8000000 in
theorem ends10_any (w : World) (q : Nat → Prop) (v : Value) (l : List Parse) (x : Nat) (h : PsQ q w v l) (hl : l.length ≤ 100000000) :
    Calls Tryd.prog 11 #[v, .int .i64 x] w fun e w' => e = .returned (.bool (decide (x ∈ l.map Prod.fst))) ∧ w' = w := by
  obtain ⟨a, c, rfl⟩ := h.form
  have HP := hid h
  obtain ⟨dd, hdd⟩ : ∃ d, d = decide (x ∈ l.map Prod.fst) := ⟨_, rfl⟩
  rw [← hdd]
  have HDD := hid hdd
  clear hdd h
  go_enter Tryd.func11, Tryd.ntmps11
  go_wp2_with fail
  go_loopw [5] (fun ix wr => ∃ j : Nat, j ≤ l.length ∧ ix = .int .i64 j ∧ Hid (wr = w) ∧ Hid (dd = decide (x ∈ (l.drop j).map Prod.fst))) (fun ix _ => l.length - (intOf ix).toNat)
  case atStart => exact ⟨0, Nat.zero_le _, rfl, hid rfl, HDD.out⟩
  case round =>
    obtain ⟨j, hj, rfl, HW, HB0⟩ := hrel
    by_cases hlt : j < l.length
    · obtain ⟨bb, cc, q1, q2, sa, sc, hlk, hv, hbb, -, -, hc0, -, -⟩ := HP.out.get hlt
      rw [← HW.out] at hc0
      have hjI : (j : Int) < l.length := by omega
      have hd := List.drop_eq_getElem_cons hlt
      have hel : l[j] = (q1, q2) := Option.some.inj ((List.getElem?_eq_getElem hlt).symm.trans hlk)
      rw [hel] at hd
      have HBN : Hid (dd = (decide (x = q1) || decide (x ∈ (l.drop (j + 1)).map Prod.fst))) := by
        show dd = _
        rw [HB0.out, hd, List.map_cons, ← Bool.decide_or]
        exact decide_eq_decide.2 List.mem_cons
      clear hd hel hlk HB0
      injection hv with hv1 hv2 hv3
      subst hv1
      by_cases hq : x = q1
      · have hq2 : ((q1 : Int) == (x : Int)) = true := by simp; omega
        have HE : Hid (true = dd) := by show _ = dd; rw [HBN.out, decide_eq_true hq]; rfl
        clear hq HBN
        go_wp2_with fail
        go_ret
        exact ⟨by rw [← HE.out]; rfl, HW.out⟩
      · have hq2 : ((q1 : Int) == (x : Int)) = false := by simp; omega
        have HE : Hid (dd = decide (x ∈ (l.drop (j + 1)).map Prod.fst)) := by show dd = _; rw [HBN.out, decide_eq_false hq, Bool.false_or]
        clear hq HBN
        go_wp2_with fail
        refine ⟨⟨j + 1, by omega, by go_num, hid HW.out, HE⟩, ?_⟩
        simp [intOf]; omega
    · have hjI : ¬ (j : Int) < l.length := by omega
      have HE : Hid (false = dd) := by
        have := HB0.out
        rw [List.drop_eq_nil_of_le (by omega), List.map_nil] at this
        exact hid (by rw [this]; simp)
      clear HB0
      go_wp2_with fail
      go_ret
      exact ⟨by rw [← HE.out]; rfl, HW.out⟩
structure AgIn (w : World) (m : Sim) (a : Option Addr) (v : Value) (l : List Nat) : Prop where
  ins : InsAt w a m.L
  own : IntQ w v l
  lt : ∀ k, k ∈ l → k < m.L.length
  few : m.L.length ≤ 4096
theorem AgIn.below {w w' : World} {m : Sim} {a : Option Addr} {v : Value} {l : List Nat} (h : AgIn w m a v l) (hb : Below w.heap.size w w') : AgIn w' m a v l :=
  ⟨h.ins.below hb (Nat.le_refl _), h.own.below hb, h.lt, h.few⟩
def some6L (m : Sim) (l : List Nat) : Bool := l.any fun k => decide ((m.inst k).op = 6)
set_option maxRecDepth 100000 in
set_option maxHeartbeats 8000000 in
theorem matched_any (w : World) (m : Sim) (a : Option Addr) (c : Nat) (v : Value) (l : List Nat) (h : AgIn w m a v l) (hl : l.length ≤ 4096) :
    Calls Tryd.prog 10 #[.agg #[.slice a m.L.length c, .bool m.lines], v] w fun e w' => e = .returned (.bool (some6L m l)) ∧ Below w.heap.size w w' := by
  obtain ⟨va, vc, rfl⟩ := h.own.form
  have hal := (Below.refl w.heap.size w).alloc (Nat.le_refl _) (.cells #[.slice a m.L.length c, .bool m.lines] 35)
  have HI := hid (h.below hal)
  have HR := hid (Row.new rfl : Row (w.alloc (.cells #[.slice a m.L.length c, .bool m.lines] 35)) w.heap.size [.slice a m.L.length c, .bool m.lines] 35)
  have HAL := hid hal
  obtain ⟨dd, hdd⟩ : ∃ d, d = some6L m l := ⟨_, rfl⟩
  rw [← hdd]
  have HDD := hid hdd
  clear hdd h hal
  go_enter Tryd.func10, Tryd.ntmps10
  go_upto_region 1 with fail
  generalize w.alloc (.cells #[.slice a m.L.length c, .bool m.lines] 35) = w1 at *
  generalize hb0 : w.heap.size = b0 at HR ⊢
  have HB0 := hid hb0
  clear hb0
  go_wp2_with fail
  go_loopw [5] (fun ix wr => ∃ j : Nat, j ≤ l.length ∧ ix = .int .i64 j ∧ Hid (Below w1.heap.size w1 wr) ∧ Hid (dd = some6L m (l.drop j))) (fun ix _ => l.length - (intOf ix).toNat)
  case atStart => exact ⟨0, Nat.zero_le _, rfl, Below.refl _ _, HDD.out⟩
  case round =>
    obtain ⟨j, hj, rfl, HW, HB1⟩ := hrel
    have q1 := (HR.out.below HW.out HR.out.lt).cell 0
    have hz1 := (HR.out.below HW.out HR.out.lt).lt
    by_cases hlt : j < l.length
    · have HI2 := hid (HI.out.below HW.out)
      obtain ⟨bb, cc, k, hlk, hv, hbb, hc0⟩ := HI2.out.own.get hlt
      have hel : l[j] = k := Option.some.inj ((List.getElem?_eq_getElem hlt).symm.trans hlk)
      have hkl : k < m.L.length := HI2.out.lt k (by rw [← hel]; exact List.getElem_mem _)
      obtain ⟨ib, io, ha, hib, hic⟩ := HI2.out.ins.at hkl
      have g0 : wr.cell? ⟨ib, io + k * 7, none⟩ = some (.int .i64 m.L[k].op) := hic 0 _ rfl
      have hinst : m.inst k = m.L[k] := Sim.inst_eq hkl
      have hd := List.drop_eq_getElem_cons hlt
      rw [hel] at hd
      have HBN : Hid (dd = (decide (m.L[k].op = 6) || some6L m (l.drop (j + 1)))) := by
        show dd = _
        rw [HB1.out, hd]
        unfold some6L
        rw [List.any_cons, hinst]
      generalize m.L[k].op = op at g0 HBN
      have hjI : (j : Int) < l.length := by omega
      have hkI : (k : Int) < m.L.length := by omega
      have hk4 := HI2.out.few
      clear hd hel hlk HB1 hinst hic
      injection hv with hv1 hv2 hv3
      subst hv1
      subst hv3
      subst ha
      generalize m.L.length = nl at *
      by_cases hq : op = 6
      · have hq2 : (op == 6) = true := by simp [hq]
        have HE : Hid (true = dd) := by show _ = dd; rw [HBN.out, decide_eq_true hq]; rfl
        clear hq HBN
        go_wp2_with fail
        go_quiet (fail)
        have HBZ := hid ((HAL.out.trans (HW.out.mono HAL.out.size)).trans ((below_drewN (Below.refl _ wr) nq).mono (HAL.out.trans (HW.out.mono HAL.out.size)).size))
        generalize wr.drewN nq = z at HBZ ⊢
        go_wp2_with fail
        go_ret
        exact ⟨by rw [← HE.out]; rfl, HBZ.out⟩
      · have hq2 : (op == 6) = false := by simp [hq]
        have HE : Hid (dd = some6L m (l.drop (j + 1))) := by show dd = _; rw [HBN.out, decide_eq_false hq, Bool.false_or]
        clear hq HBN
        go_wp2_with fail
        go_quiet (fail)
        have HBZ := hid (HW.out.trans ((below_drewN (Below.refl _ wr) nq).mono HW.out.size))
        generalize wr.drewN nq = z at HBZ ⊢
        go_wp2_with fail
        refine ⟨⟨j + 1, by omega, by go_num, HBZ.out, HE⟩, ?_⟩
        simp [intOf]; omega
    · have hjI : ¬ (j : Int) < l.length := by omega
      have HE : Hid (false = dd) := by
        have := HB1.out
        rw [List.drop_eq_nil_of_le (by omega)] at this
        exact hid this.symm
      have HBZ := hid (HAL.out.trans (HW.out.mono HAL.out.size))
      clear HB1
      go_wp2_with fail
      go_ret
      exact ⟨by rw [← HE.out]; rfl, HBZ.out⟩
end Go.Proofs.YthnpbopnpdlmnaaDoor

/- A region that draws its order and holds one call that writes: before it one thing is known of the world, behind it another; the values of the other operations are the same in both. Nothing here speaks of the program. -/
namespace Go.Proofs.YthnpbopnpdlmnaaDoor
open Go.RowKit

section
variable {P : Program} {ops : Array Oper} {Q : Exit → Act → World → Prop}

structure InvW (ops : Array Oper) (n c : Nat) (B A : World → Prop) (a0 : Act) (φ : Nat → Value → World → Prop) (listed : Array Bool) (a : Act) (w : World) : Prop where
  size : listed.size = ops.size
  closed : ∀ j oj, ops[j]? = some oj → listed.getD j false = true → ∀ e ∈ oj.after, Region.binds .any e = true → listed.getD e.on false = true
  tail : ∀ t, n ≤ t → t < ops.size → listed.getD t true = false
  before : listed.getD c false = false → B w
  behind : listed.getD c false = true → A w
  facts : ∃ vs, a = fill ops vs n a0 ∧ ∀ j, j < n → listed.getD j false = true → φ j (vs j) w
theorem InvW.toInv {n c : Nat} {B A : World → Prop} {a0 : Act} {φ : Nat → Value → World → Prop} {listed : Array Bool} {a : Act} {w : World} (h : InvW ops n c B A a0 φ listed a w) : Inv ops n (fun _ _ => True) w a0 (fun _ _ _ => True) listed a w :=
  ⟨h.size, h.closed, h.tail, trivial, let ⟨vs, h1, _⟩ := h.facts; ⟨vs, h1, fun _ _ _ => trivial⟩⟩
def StepW (P : Program) (ops : Array Oper) (c : Nat) (R : World → World → Prop) (B A : World → Prop) (i : Nat) (φ : Value → World → Prop) (o : Oper) (a : Act) (w : World) : Prop :=
  if i = c then B w → Region.wanted o (yielded ops a.tmps) = true ∧ gives P o a w (fun v w' => A w' ∧ φ v w') else B w ∨ A w → StepOf P ops R φ o a w

theorem inv_anyW {n m c : Nat} {R : World → World → Prop} {B A : World → Prop} {a0 : Act} {φ : Nat → Value → World → Prop} (hrf : ∀ x, R x x) (hcn : c < n) (hRB : ∀ x y, R x y → B x → B y) (hRA : ∀ x y, R x y → A x → A y) (hφ : ∀ i v x y, R x y → φ i v x → φ i v y)
    (hφc : ∀ i v x y, i ≠ c → B x → φ i v x → A y → φ i v y)
    (hB : planB ops n m = true) (_hm : a0.tmps.size = m)
    (hop : ∀ i o, i < n → ops[i]? = some o → ∀ vs w, (∀ j, j < n → waits ops i j = true → φ j (vs j) w) → StepW P ops c R B A i (φ i) o (fill ops vs n a0) w)
    (hfin : ∀ vs w, A w → (∀ j, j < n → φ j (vs j) w) → wpList P ops Q (ops.toList.drop n) (fill ops vs n a0) w) :
    ∀ (fuel : Nat) (listed : Array Bool) (a : Act) (w : World), InvW ops n c B A a0 φ listed a w → left ops listed ≤ fuel → wpAny P .any ops Q fuel listed a w := by
  have hB0 := hB
  simp only [planB, Bool.and_eq_true, Bool.or_eq_true, decide_eq_true_eq] at hB
  obtain ⟨⟨⟨⟨⟨hn, hdist⟩, hbnd⟩, _⟩, hc⟩, _⟩ := hB
  have hdist' : ∀ i j, i < n → j < n → j ≠ i → dstOf ops i = none ∨ dstOf ops i ≠ dstOf ops j := by
    intro i j hi hj hne
    have h1 := List.all_eq_true.1 (List.all_eq_true.1 hdist i (List.mem_range.2 hi)) j (List.mem_range.2 hj)
    simp only [Bool.or_eq_true, decide_eq_true_eq, Option.isNone_iff_eq_none] at h1
    rcases h1 with (h1 | h1) | h1
    · omega
    · exact .inl h1
    · exact .inr h1
  intro fuel
  induction fuel with
  | zero =>
    intro listed a w inv hl
    by_cases hdone : ∀ j, j < n → listed.getD j false = true
    · obtain ⟨vs, rfl, hv⟩ := inv.facts
      exact tail_any hB0 0 n listed _ w (Nat.le_refl _) hn inv.size hdone inv.tail hl (hfin vs w (inv.behind (hdone c hcn)) fun j hj => hv j hj (hdone j hj))
    · exfalso
      obtain ⟨j, hj⟩ := Classical.not_forall.1 hdone
      obtain ⟨hj1, hj2⟩ := Classical.not_imp.1 hj
      have : 0 < left ops listed := by
        unfold left
        refine List.countP_pos_iff.2 ⟨j, List.mem_range.2 (by omega), ?_⟩
        rw [inD (by rw [inv.size]; omega) (by simpa using hj2)]; rfl
      omega
  | succ fuel ih =>
    intro listed a w inv hl
    by_cases hdone : ∀ j, j < n → listed.getD j false = true
    · obtain ⟨vs, rfl, hv⟩ := inv.facts
      exact tail_any hB0 _ n listed _ w (Nat.le_refl _) hn inv.size hdone inv.tail hl (hfin vs w (inv.behind (hdone c hcn)) fun j hj => hv j hj (hdone j hj))
    · obtain ⟨j, hj⟩ := Classical.not_forall.1 hdone
      obtain ⟨hj1, hj2⟩ := Classical.not_imp.1 hj
      have hj3 : listed.getD j false = false := by simpa using hj2
      refine ⟨fun h0 => absurd h0 (least_ready hB0 inv.size (i := j) (by omega) (inD (by rw [inv.size]; omega) hj3)), fun i hi => ?_⟩
      have hleft := left_set hi
      have hin : i < n := by
        rcases Nat.lt_or_ge i n with h | h
        · exact h
        · rcases Nat.lt_or_ge n ops.size with hns | hns
          · exact absurd hi (not_ready hB0 hns inv.toInv _ j rfl hj1 hj3 i h)
          · obtain ⟨_, o, ho, _⟩ := mem_ready.1 hi
            have hlt : i < ops.size := (Array.getElem?_eq_some_iff.1 ho).1
            omega
      obtain ⟨hun, o, ho, hall⟩ := mem_ready.1 hi
      have hlt : i < ops.size := (Array.getElem?_eq_some_iff.1 ho).1
      obtain ⟨vs, rfl, hv⟩ := inv.facts
      have hdeps : ∀ j, j < n → waits ops i j = true → φ j (vs j) w := by
        intro j hjn hw
        obtain ⟨o', ho', e, he, hb, hon⟩ := waits_spec hw
        have : o' = o := Option.some.inj (ho'.symm.trans ho)
        subst this
        have h3 := hall e he hb
        rw [hon] at h3
        exact hv j hjn h3
      have hst := hop i o hin ho vs w hdeps
      have hd0 : dstOf ops i = o.dst := by simp [dstOf, ho]
      have hnext : ∀ u w', ((listed.setIfInBounds i true).getD c false = false → B w') → ((listed.setIfInBounds i true).getD c false = true → A w') → (∀ j, j < n → j ≠ i → listed.getD j false = true → φ j (vs j) w') → φ i u w' → wpAny P .any ops Q fuel (listed.setIfInBounds i true) ((fill ops vs n a0).put o.dst u) w' := by
        intro u w' hbe hbh hold hu
        refine ih _ _ _ ⟨by simp [inv.size], fun j oj hoj hlj e he hb => ?_, fun t ht ht' => by rw [getD_set_ne true (by omega)]; exact inv.tail t ht ht', hbe, hbh, ⟨fun j => if j = i then u else vs j, ?_, fun j hjn hlj => ?_⟩⟩ (by omega)
        · by_cases hij : i = j
          · subst hij
            have : oj = o := Option.some.inj (hoj.symm.trans ho)
            subst this
            exact getD_set_true (hall e he hb)
          · rw [getD_set_ne false hij] at hlj
            exact getD_set_true (inv.closed j oj hoj hlj e he hb)
        · rw [← hd0]
          exact fill_set vs a0 i u n (fun j hj hne => hdist' i j hin hj hne) hin
        · by_cases hij : j = i
          · subst hij; simpa using hu
          · simp only [hij, if_false]
            rw [getD_set_ne false (Ne.symm hij)] at hlj
            exact hold j hjn hij hlj
      unfold wpOp
      rw [ho]
      show if Region.wanted o (yielded ops (fill ops vs n a0).tmps) = true then _ else _
      unfold StepW at hst
      by_cases hic : i = c
      · subst hic
        rw [if_pos rfl] at hst
        have hBw := inv.before (bothD hun)
        obtain ⟨hwant, hg⟩ := hst hBw
        rw [if_pos hwant]
        have hset : (listed.setIfInBounds i true).getD i false = true := by simp [inv.size, hlt]
        exact .inl (hg.wp fun v w' ⟨h1, h2⟩ => hnext v w' (fun h => by rw [hset] at h; cases h) (fun _ => h1) (fun j hjn hji hlj => hφc j _ _ _ hji hBw (hv j hjn hlj) h1) h2)
      · rw [if_neg hic] at hst
        have hBA : B w ∨ A w := by
          cases hc0 : listed.getD c false with
          | false => exact .inl (inv.before hc0)
          | true => exact .inr (inv.behind hc0)
        have hst := hst hBA
        unfold StepOf at hst
        have hgo : ∀ u w', R w w' → φ i u w' → wpAny P .any ops Q fuel (listed.setIfInBounds i true) ((fill ops vs n a0).put o.dst u) w' := fun u w' hR hu =>
          hnext u w' (fun h => by rw [getD_set_ne false hic] at h; exact hRB _ _ hR (inv.before h)) (fun h => by rw [getD_set_ne false hic] at h; exact hRA _ _ hR (inv.behind h)) (fun j hjn _ hlj => hφ j _ _ _ hR (hv j hjn hlj)) hu
        split
        · rename_i hw
          rw [if_pos hw] at hst
          exact .inl (hst.wp fun v w' ⟨h1, h2⟩ => hgo v w' h1 h2)
        · rename_i hw
          rw [if_neg hw] at hst
          exact hgo undef w (hrf w) hst

def PlanW (P : Program) (ops : Array Oper) (Q : Exit → Act → World → Prop) (c : Nat) (R : World → World → Prop) (B A : World → Prop) (n : Nat) (F : (Nat → Value) → Act) : List Oper → Nat → List (Nat × (Value → World → Prop)) → Prop
  | [], _, φs => ∀ vs w, A w → (∀ (k j : Nat) (φ : Value → World → Prop), φs[k]? = some (j, φ) → φ (vs j) w) → wpList P ops Q (ops.toList.drop n) (F vs) w
  | o :: rest, i, φs => ∃ φ : Value → World → Prop, ((∀ v x y, R x y → φ v x → φ v y) ∧ (i ≠ c → ∀ v x y, B x → φ v x → A y → φ v y)) ∧
      (∀ vs w, (∀ (k j : Nat) (φ' : Value → World → Prop), φs[k]? = some (j, φ') → waits ops i j = true → φ' (vs j) w) → StepW P ops c R B A i φ o (F vs) w) ∧ PlanW P ops Q c R B A n F rest (i + 1) ((i, φ) :: φs)
theorem PlanW.spec {c : Nat} {R : World → World → Prop} {B A : World → Prop} {n : Nat} {F : (Nat → Value) → Act} : ∀ (l : List Oper) (i : Nat) (φs : List (Nat × (Value → World → Prop))) (pre : List (Value → World → Prop)), PlanW P ops Q c R B A n F l i φs → pre.length = i →
    (∀ (j : Nat) (φ : Value → World → Prop), (j, φ) ∈ φs → pre[j]? = some φ) → (∀ (j : Nat) (φ : Value → World → Prop), pre[j]? = some φ → (∀ v x y, R x y → φ v x → φ v y) ∧ (j ≠ c → ∀ v x y, B x → φ v x → A y → φ v y)) →
    ∃ full : List (Value → World → Prop), full.length = i + l.length ∧ (∀ (j : Nat) (φ : Value → World → Prop), pre[j]? = some φ → full[j]? = some φ) ∧ (∀ (j : Nat) (φ : Value → World → Prop), full[j]? = some φ → (∀ v x y, R x y → φ v x → φ v y) ∧ (j ≠ c → ∀ v x y, B x → φ v x → A y → φ v y)) ∧
      (∀ (k : Nat) (o : Oper) (φ : Value → World → Prop), l[k]? = some o → full[i + k]? = some φ → ∀ vs w, (∀ (j : Nat) (φ' : Value → World → Prop), j < i + k → full[j]? = some φ' → waits ops (i + k) j = true → φ' (vs j) w) → StepW P ops c R B A (i + k) φ o (F vs) w) ∧
      (∀ vs w, A w → (∀ (j : Nat) (φ : Value → World → Prop), full[j]? = some φ → φ (vs j) w) → wpList P ops Q (ops.toList.drop n) (F vs) w)
  | [], i, φs, pre, h, hl, hm, hst => ⟨pre, by simpa using hl, fun _ _ h => h, hst, fun k o φ hk => by simp at hk, fun vs w hA hF => h vs w hA fun k j φ hk => hF j φ (hm j φ (List.mem_of_getElem? hk))⟩
  | o :: rest, i, φs, pre, h, hl, hm, hst => by
    obtain ⟨φ, h1, h2, h3⟩ := h
    obtain ⟨full, f1, f2, f3, f4, f5⟩ := PlanW.spec rest (i + 1) ((i, φ) :: φs) (pre ++ [φ]) h3 (by simp [hl]) (fun j φ' hj => by
      rcases List.mem_cons.1 hj with hj | hj
      · simp only [Prod.mk.injEq] at hj
        obtain ⟨rfl, rfl⟩ := hj
        rw [List.getElem?_append_right (by omega)]; simp [hl]
      · have := hm j φ' hj
        have hjl : j < pre.length := (List.getElem?_eq_some_iff.1 this).1
        rw [List.getElem?_append_left hjl]; exact this) (fun j φ' hj => by
      rcases Nat.lt_or_ge j pre.length with hjl | hjl
      · rw [List.getElem?_append_left hjl] at hj; exact hst j φ' hj
      · have hj2 : j < (pre ++ [φ]).length := (List.getElem?_eq_some_iff.1 hj).1
        rw [List.length_append, List.length_singleton] at hj2
        obtain rfl : j = pre.length := by omega
        rw [List.getElem?_append_right (Nat.le_refl _)] at hj
        simp at hj
        subst hj
        rw [hl]
        exact h1)
    refine ⟨full, by simp only [List.length_cons]; omega, fun j φ' hj => f2 j φ' (by
      have : j < pre.length := (List.getElem?_eq_some_iff.1 hj).1
      rw [List.getElem?_append_left this]; exact hj), f3, fun k o' φ' hk hf => ?_, f5⟩
    cases k with
    | zero =>
      simp at hk
      subst hk
      have hφ : full[i]? = some φ := f2 i φ (by rw [List.getElem?_append_right (by omega)]; simp [hl])
      rw [Nat.add_zero, hφ] at hf
      obtain rfl := Option.some.inj hf
      intro vs w hF
      refine h2 vs w fun k j φ' hk hw => ?_
      have hj := hm j φ' (List.mem_of_getElem? hk)
      have hjl : j < pre.length := (List.getElem?_eq_some_iff.1 hj).1
      exact hF j φ' (by omega) (f2 j φ' (by rw [List.getElem?_append_left hjl]; exact hj)) hw
    | succ k =>
      have := f4 k o' φ' (by simpa using hk) (by rw [show i + 1 + k = i + (k + 1) by omega]; exact hf)
      rw [show i + 1 + k = i + (k + 1) by omega] at this
      exact this
theorem wp_region_invW {id : Nat} {a : Act} {w : World} {l : List Oper} (n c : Nat) (hcn : c < n) (R : World → World → Prop) (B A : World → Prop) (hm : P.follows .mixedOrders = true) (hB : planB l.toArray n a.tmps.size = true)
    (hrf : ∀ x, R x x) (hRB : ∀ x y, R x y → B x → B y) (hRA : ∀ x y, R x y → A x → A y) (hB0 : B w.drew) (h : PlanW P l.toArray Q c R B A n (fun vs => fill l.toArray vs n a) (l.take n) 0 []) : (Code.region id l.toArray true).wp P Q a w := by
  obtain ⟨full, f1, f2, f3, f4, f5⟩ := PlanW.spec _ _ _ [] h rfl (fun j φ hm => by cases hm) (fun j φ hm => by cases hm)
  have hn : n ≤ l.length := by
    simp only [planB, Bool.and_eq_true, decide_eq_true_eq] at hB
    simpa using hB.1.1.1.1.1
  have hlen : full.length = n := by rw [f1]; simp [hn]
  have hfull : ∀ i, i < n → full[i]? = some (full.getD i (fun _ _ => True)) := fun i hi => by simp [show i < full.length by omega]
  refine wp_region_any hm (inv_anyW (R := R) (B := B) (A := A) (a0 := a) (n := n) (c := c) (φ := fun i => full.getD i (fun _ _ => True)) hrf hcn hRB hRA (fun i v x y hR hp => ?_) (fun i v x y hic hb hp ha => ?_) hB rfl (fun i o hi ho vs x hF => ?_) (fun vs x hA hF => ?_) _ _ _ _ ⟨by simp, fun j oj _ hl => (by rw [repD] at hl; cases hl), fun t _ ht => inD (by simpa using ht) (repD _ _), fun _ => hB0, fun h => (by rw [repD] at h; cases h), fun j => match dstOf l.toArray j with | some d => a.tmps.getD d undef | none => undef, ?_, fun j _ hl => (by rw [repD] at hl; cases hl)⟩ ?_)
  · by_cases hi : i < n
    · exact (f3 i _ (hfull i hi)).1 v x y hR hp
    · have he : full.getD i (fun _ _ => True) = fun _ _ => True := by rw [List.getD_eq_getElem?_getD, List.getElem?_eq_none (by omega)]; rfl
      simp only [he]
  · by_cases hi : i < n
    · exact (f3 i _ (hfull i hi)).2 hic v x y hb hp ha
    · have he : full.getD i (fun _ _ => True) = fun _ _ => True := by rw [List.getD_eq_getElem?_getD, List.getElem?_eq_none (by omega)]; rfl
      simp only [he]
  · have he : full[0 + i]? = some (full.getD i (fun _ _ => True)) := by rw [Nat.zero_add]; exact hfull i hi
    have := f4 i o _ (by rw [List.getElem?_take]; rw [if_pos hi]; simpa using ho) he vs x fun j φ' hj hf hw => by
      have := hF j (by omega) (by rw [Nat.zero_add] at hw; exact hw)
      rwa [List.getD_eq_getElem?_getD, hf] at this
    rw [Nat.zero_add] at this
    exact this
  · refine f5 vs x hA fun j φ hj => ?_
    have := hF j (by rw [← hlen]; exact (List.getElem?_eq_some_iff.1 hj).1)
    rwa [List.getD_eq_getElem?_getD, hj] at this
  · have key : ∀ k, fill l.toArray (fun j => match dstOf l.toArray j with | some d => a.tmps.getD d undef | none => undef) k a = a := by
      intro k
      induction k with
      | zero => rfl
      | succ k ih =>
        rw [fill, ih]
        cases hd : dstOf l.toArray k with
        | none => rfl
        | some d =>
          obtain ⟨tmps, defers⟩ := a
          simp only [Act.put]
          congr 1
          apply Array.ext
          · simp
          · intro i h1 h2
            by_cases hdi : d = i
            · subst hdi
              simp [h2]
            · rw [Array.getElem_setIfInBounds (by simpa using h1), if_neg hdi]
    exact (key n).symm
  · unfold left
    refine Nat.le_trans List.countP_le_length ?_
    simp
theorem PlanW.det {c : Nat} {R : World → World → Prop} {B A : World → Prop} {n : Nat} {F : (Nat → Value) → Act} {o : Oper} {rest : List Oper} {i : Nat} {φs : List (Nat × (Value → World → Prop))} (i' : Nat) (hi : i + 1 = i') (hic : i ≠ c) (hrf : ∀ x, R x x)
    (h : ∃ u : Value, (∀ vs w, (B w ∨ A w) → (∀ (k j : Nat) (φ' : Value → World → Prop), φs[k]? = some (j, φ') → waits ops i j = true → φ' (vs j) w) → ∀ K : Value → World → Prop, (∀ v w', R w w' → v = u → K v w') →
      if Region.wanted o (yielded ops (F vs).tmps) then gives P o (F vs) w K else K undef w) ∧ PlanW P ops Q c R B A n F rest i' ((i, fun v _ => v = u) :: φs)) :
    PlanW P ops Q c R B A n F (o :: rest) i φs := by
  subst hi
  obtain ⟨u, h1, h2⟩ := h
  refine ⟨fun v _ => v = u, ⟨fun _ _ _ _ h => h, fun _ _ _ _ _ h _ => h⟩, fun vs w hF => ?_, h2⟩
  unfold StepW
  rw [if_neg hic]
  exact fun hBA => StepOf.of (hrf w) (h1 vs w hBA hF)
theorem PlanW.call {c : Nat} {R : World → World → Prop} {B A : World → Prop} {n : Nat} {F : (Nat → Value) → Act} {o : Oper} {rest : List Oper} {φs : List (Nat × (Value → World → Prop))} (i' : Nat) (hi : c + 1 = i') (φ : Value → World → Prop)
    (hφ : ∀ v x y, R x y → φ v x → φ v y) (h1 : ∀ vs w, B w → (∀ (k j : Nat) (φ' : Value → World → Prop), φs[k]? = some (j, φ') → waits ops c j = true → φ' (vs j) w) → ∀ K : Value → World → Prop, (∀ v w', A w' → φ v w' → K v w') →
      Region.wanted o (yielded ops (F vs).tmps) = true ∧ gives P o (F vs) w K) (h2 : PlanW P ops Q c R B A n F rest i' ((c, φ) :: φs)) :
    PlanW P ops Q c R B A n F (o :: rest) c φs := by
  subst hi
  refine ⟨φ, ⟨hφ, fun h => absurd rfl h⟩, fun vs w hF => ?_, h2⟩
  unfold StepW
  rw [if_pos rfl]
  exact fun hB => h1 vs w hB hF _ fun v w' h3 h4 => ⟨h3, h4⟩
theorem PlanW.nil {c : Nat} {R : World → World → Prop} {B A : World → Prop} {n : Nat} {F : (Nat → Value) → Act} {i : Nat} {φs : List (Nat × (Value → World → Prop))}
    (h : ∀ vs w, A w → (∀ (k j : Nat) (φ : Value → World → Prop), φs[k]? = some (j, φ) → φ (vs j) w) → wpList P ops Q (ops.toList.drop n) (F vs) w) : PlanW P ops Q c R B A n F [] i φs := h
attribute [irreducible] PlanW
end
end Go.Proofs.YthnpbopnpdlmnaaDoor

/- The law ReprogAgrees: what is reached without a byte. -/
namespace Go.Proofs.YthnpbopnpdlmnaaDoor
open Go.RowKit
attribute [local go_sem] gives givesUpon

structure RchP (m : Sim) (i k : Nat) (l l' : List Nat) : Prop where
  mono : ∀ x, x ∈ l → x ∈ l'
  self : k ∈ l'
  src : ∀ x, x ∈ l' → x ∈ l ∨ m.Reach i (· = k) x
  nxt : ∀ x, x ∈ l' → x ∉ l → ∀ j, j ∈ m.eps i x → j ∈ l'
  nd : l'.Nodup
  lt : ∀ x, x ∈ l' → x < m.L.length
theorem RchP.old {m : Sim} {i k : Nat} {l : List Nat} (hk : k ∈ l) (hn : l.Nodup) (hl : ∀ x, x ∈ l → x < m.L.length) : RchP m i k l l :=
  ⟨fun _ h => h, hk, fun _ h => .inl h, fun x h h' => absurd h h', hn, hl⟩
theorem RchP.new {m : Sim} {i k : Nat} {l l' : List Nat} (hm : ∀ x, x ∈ l ++ [k] → x ∈ l') (hs : ∀ x, x ∈ l' → x ∈ l ++ [k] ∨ ∃ j, j ∈ m.eps i k ∧ m.Reach i (· = j) x) (hx : ∀ x, x ∈ l' → x ∉ l ++ [k] → ∀ j, j ∈ m.eps i x → j ∈ l') (he : ∀ j, j ∈ m.eps i k → j ∈ l') (hn : l'.Nodup) (hl : ∀ x, x ∈ l' → x < m.L.length) : RchP m i k l l' := by
  refine ⟨fun x h => hm x (by simp [h]), hm k (by simp), fun x h => ?_, fun x h h' => ?_, hn, hl⟩
  · rcases hs x h with h | ⟨j, hj, hr⟩
    · rcases List.mem_append.1 h with h | h
      · exact .inl h
      · have := List.mem_singleton.1 h; subst this
        exact .inr (.base rfl)
    · exact .inr (Sim.Reach.least (V := fun x => m.Reach i (· = k) x) (fun y hy => by subst hy; exact .step (.base rfl) hj) (fun y hy z hz => .step hy hz) hr)
  · by_cases hxk : x = k
    · subst hxk; exact he
    · exact hx x h (by simp [h', hxk])
theorem RchP.leaf {m : Sim} {i k : Nat} {l : List Nat} (he : m.eps i k = []) (hk : k ∉ l) (hkl : k < m.L.length) (hn : l.Nodup) (hl : ∀ x, x ∈ l → x < m.L.length) : RchP m i k l (l ++ [k]) :=
  RchP.new (fun _ h => h) (fun _ h => .inl h) (fun x h h' => absurd h h') (fun j hj => by rw [he] at hj; cases hj) (List.nodup_append.2 ⟨hn, by simp, fun a ha b hb => by have := List.mem_singleton.1 hb; subst this; rintro rfl; exact hk ha⟩) (fun x h => by
    rcases List.mem_append.1 h with h | h
    · exact hl x h
    · have := List.mem_singleton.1 h; subst this; exact hkl)
theorem RchP.one {m : Sim} {i k j : Nat} {l l' : List Nat} (he : m.eps i k = [j]) (h : RchP m i j (l ++ [k]) l') : RchP m i k l l' :=
  RchP.new h.mono (fun x hx => (h.src x hx).imp id fun hr => ⟨j, by rw [he]; simp, hr⟩) h.nxt (fun j' hj => by rw [he] at hj; have := List.mem_singleton.1 hj; subst this; exact h.self) h.nd h.lt
theorem RchP.two {m : Sim} {i k x y : Nat} {l l1 l2 : List Nat} (he : m.eps i k = [y, x]) (h1 : RchP m i x (l ++ [k]) l1) (h2 : RchP m i y l1 l2) : RchP m i k l l2 := by
  refine RchP.new (fun z hz => h2.mono z (h1.mono z hz)) (fun z hz => ?_) (fun z hz hz' => ?_) (fun j hj => ?_) h2.nd h2.lt
  · rcases h2.src z hz with h | h
    · exact (h1.src z h).imp id fun hr => ⟨x, by rw [he]; simp, hr⟩
    · exact .inr ⟨y, by rw [he]; simp, h⟩
  · by_cases hzl : z ∈ l1
    · exact fun j hj => h2.mono j (h1.nxt z hzl hz' j hj)
    · exact h2.nxt z hz hzl
  · rw [he] at hj
    simp at hj
    rcases hj with rfl | rfl
    · exact h2.self
    · exact h2.mono _ h1.self
theorem own_form (a : Option Addr) (n c : Nat) (g : Nat) : g ∈ own (.slice a n c) ↔ (Value.slice a n c).ownBlock = some g := by
  unfold own
  cases (Value.slice a n c).ownBlock with
  | none => simp
  | some k => simp [eq_comm]
def RcPost (m : Sim) (i k base : Nat) (v : Value) (l : List Nat) (w : World) (e : Ending) (w' : World) : Prop :=
  ∃ (l' : List Nat) (a : Option Addr) (c : Nat), e = .returned (.slice a l'.length c) ∧ OwnN9 w' base (.slice a l'.length c) l' ∧ RchP m i k l l' ∧ But (own v) w w' ∧ ∀ g, g ∈ own (.slice a l'.length c) → g ∈ own v ∨ w.heap.size ≤ g
structure RcIn (w : World) (m : Sim) (a : Option Addr) (base : Nat) (v : Value) (l : List Nat) : Prop where
  ins : InsAt w a m.L
  low : ∀ b o, a = some ⟨b, o, none⟩ → b < base
  bs : base ≤ w.heap.size
  own : OwnN9 w base v l
  nd : l.Nodup
  lt : ∀ x, x ∈ l → x < m.L.length
theorem InsAt.but {w w' : World} {a : Option Addr} {L : List Inst} {S : List Nat} {base : Nat} (h : InsAt w a L) (hl : ∀ b o, a = some ⟨b, o, none⟩ → b < base) (hb : But S w w') (hS : ∀ g, g ∈ S → base ≤ g) : InsAt w' a L := by
  rcases h with h | ⟨b, o, rfl, h1, h2⟩
  · exact .inl h
  · have hlb := hl b o rfl
    refine .inr ⟨b, o, rfl, Nat.lt_of_lt_of_le h1 hb.size, fun i hi j v hj => ?_⟩
    have hbb := hb.block b h1 (fun hm => by have := hS b hm; omega)
    have := h2 i hi j v hj
    unfold World.cell? at this ⊢
    rw [hbb]
    exact this
theorem OwnN9.blocks {w : World} {base : Nat} {v : Value} {l : List Nat} (h : OwnN9 w base v l) : ∀ g, g ∈ own v → base ≤ g ∧ g < w.heap.size := by
  intro g hg
  unfold own at hg
  cases hv : v.ownBlock with
  | none => rw [hv] at hg; simp at hg
  | some k => rw [hv] at hg; simp at hg; subst hg; exact h.lt g hv
theorem RcIn.below {w w' : World} {m : Sim} {a : Option Addr} {base : Nat} {v : Value} {l : List Nat} (h : RcIn w m a base v l) (hb : Below w.heap.size w w') : RcIn w' m a base v l :=
  ⟨h.ins.below hb (Nat.le_refl _), h.low, Nat.le_trans h.bs hb.size, h.own.below hb, h.nd, h.lt⟩
theorem RchP.len {m : Sim} {i k : Nat} {l l' : List Nat} (h : RchP m i k l l') (hn : l.Nodup) : l.length ≤ l'.length := List.Nodup.length_le_of_subset hn h.mono
theorem RcIn.nxt {w w' : World} {m : Sim} {a : Option Addr} {base i k : Nat} {v v' : Value} {l l' : List Nat} (h : RcIn w m a base v l) (ho : OwnN9 w' base v' l') (hr : RchP m i k l l') (hb : But (Go.Proofs.YthnpbopnpdlmnaaDoor.own v) w w') : RcIn w' m a base v' l' :=
  ⟨h.ins.but h.low hb fun g hg => (OwnN9.blocks h.own g hg).1, h.low, Nat.le_trans h.bs hb.size, ho, hr.nd, hr.lt⟩
theorem own_trans {S T U : Value} {x y : Nat} (h : ∀ g, g ∈ own T → g ∈ own S ∨ x ≤ g) (k : ∀ g, g ∈ own U → g ∈ own T ∨ y ≤ g) (hxy : x ≤ y) : ∀ g, g ∈ own U → g ∈ own S ∨ x ≤ g := fun g hg => by
  rcases k g hg with h1 | h1
  · exact h g h1
  · exact .inr (by omega)
theorem but_trans {S T : Value} {w x y : World} (h : But (own S) w x) (k : But (own T) x y) (hT : ∀ g, g ∈ own T → g ∈ own S ∨ w.heap.size ≤ g) : But (own S) w y :=
  ⟨k.os.trans h.os, k.tape.trans h.tape, k.output.trans h.output, Nat.le_trans h.size k.size, fun g hg hn => (k.block g (Nat.lt_of_lt_of_le hg h.size) (fun hm => by
    rcases hT g hm with h1 | h1
    · exact hn h1
    · omega)).trans (h.block g hg hn)⟩
theorem OwnN9.ne_row {w : World} {base b : Nat} {v : Value} {l : List Nat} {cs : List Value} {T : TypeId} (h : OwnN9 w base v l) (hr : Row w b cs T) (hT : T ≠ 3) : b ∉ own v := by
  intro hm
  unfold own at hm
  cases hv : v.ownBlock with
  | none => rw [hv] at hm; simp at hm
  | some k =>
    rw [hv] at hm
    simp at hm
    subst hm
    rcases h.2 with ⟨rfl, -⟩ | ⟨g, cap, cur, rfl, hg, hcur, -⟩
    · simp [Value.ownBlock] at hv
    · simp [Value.ownBlock] at hv
      subst hv
      exact hT (hr.typed (show Row w g cur.toList 3 from hcur))
end Go.Proofs.YthnpbopnpdlmnaaDoor
