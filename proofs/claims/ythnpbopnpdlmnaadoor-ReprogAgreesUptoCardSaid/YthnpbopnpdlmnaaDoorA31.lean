/- The program of layer 9: spans without those of a tree's groups; anchors. -/
import Derived.Test.YthnpbopnpdlmnaaDoorA30
import Derived.Deep.Cut
import Derived.Test.YthnpbopnpdlmnaaDoorA02
namespace Go.Proofs.YthnpbopnpdlmnaaDoor
open Go.RowKit
attribute [local go_sem] gives givesUpon

def ClrPost (w : World) (N : Nat) (sp : Spans) (e : Ending) (w' : World) : Prop := ∃ a c, e = .returned (.slice a N c) ∧ Below w.heap.size w w' ∧ SpQ w' (.slice a N c) sp
set_option maxRecDepth 100000 in
set_option maxHeartbeats 8000000 in
theorem pcleared_any (wb : World) (N : Nat) (hN : N ≤ 9) (t : Re) : ∀ (w : World) (cs : List Value) (sa : Option Addr) (sc : Nat) (sp : Spans), t.In wb cs → t.ok N → Below wb.heap.size wb w → sp.length = N → SpQ w (.slice sa N sc) sp → Tabs9 w →
    Calls Tryd.prog 57 #[.agg cs.toArray, .slice sa N sc] w (ClrPost w N (unset sp (withinOf t))) := by
  induction t using Re.ind with
  | h p xs ih =>
    intro w cs sa sc sp hIn hok hbw hspl hsp ht
    rw [Re.In] at hIn
    obtain ⟨ad, cap, rfl, hwf, hlc, hcm, hnil, hall⟩ := hIn
    rw [Re.ok] at hok
    obtain ⟨-, -, -, hgr, hoks⟩ := hok
    have hml : xs.length ≤ 9223372036854775807 := by unfold maxLen at hcm; omega
    have HIH := hid ih
    have HAL := hid hall
    have HBW := hid hbw
    have HOK := hid hoks
    simp only [Pay.cells]
    have hb1 : Below w.heap.size w (w.alloc (.cells #[.int .i64 p.op, .int .u64 p.set.a, .int .u64 p.set.b, .int .u64 p.set.c, .int .u64 p.set.d, .int .i64 p.lo, .int .i64 p.hi, .int .i64 p.gr, .slice ad xs.length cap] 28)) := (Below.refl w.heap.size w).alloc (Nat.le_refl _) (.cells #[.int .i64 p.op, .int .u64 p.set.a, .int .u64 p.set.b, .int .u64 p.set.c, .int .u64 p.set.d, .int .i64 p.lo, .int .i64 p.hi, .int .i64 p.gr, .slice ad xs.length cap] 28)
    have HRW := hid (⟨Row.new (w := w) (cs := [.int .i64 p.op, .int .u64 p.set.a, .int .u64 p.set.b, .int .u64 p.set.c, .int .u64 p.set.d, .int .i64 p.lo, .int .i64 p.hi, .int .i64 p.gr, .slice ad xs.length cap]) (T := 28) rfl, hb1, hsp.below hb1, ht.on hb1⟩ : Row (w.alloc (.cells #[.int .i64 p.op, .int .u64 p.set.a, .int .u64 p.set.b, .int .u64 p.set.c, .int .u64 p.set.d, .int .i64 p.lo, .int .i64 p.hi, .int .i64 p.gr, .slice ad xs.length cap] 28)) w.heap.size [.int .i64 p.op, .int .u64 p.set.a, .int .u64 p.set.b, .int .u64 p.set.c, .int .u64 p.set.d, .int .i64 p.lo, .int .i64 p.hi, .int .i64 p.gr, .slice ad xs.length cap] 28 ∧ _ ∧ _ ∧ Tabs9 (w.alloc (.cells #[.int .i64 p.op, .int .u64 p.set.a, .int .u64 p.set.b, .int .u64 p.set.c, .int .u64 p.set.d, .int .i64 p.lo, .int .i64 p.hi, .int .i64 p.gr, .slice ad xs.length cap] 28)))
    have q0 := HRW.out.1.c9
    have q2 := HRW.out.2.2.2.none0
    have q3 := HRW.out.2.2.2.none1
    have HT := hid ht
    obtain ⟨gs, hgs⟩ : ∃ gs, gs = if p.op = 6 then [p.gr.toNat] else [] := ⟨_, rfl⟩
    have HGS : Hid (∀ ys, unset (unset sp gs) (withinAll ys) = unset sp (withinOf (.mk p ys))) := fun ys => by rw [withinOf, ← hgs, unset_app]
    have HSPL := hid hspl
    go_enter Tryd.func57, Tryd.ntmps57
    apply wp_seq_k
    intro K0 hK0
    have HK0 := hid hK0
    clear hK0
    clear ih hall hwf hbw hoks hcm hlc hnil hb1 hsp ht
    go_wp2_with fail
    refine HK0.out _ _ ?_
    clear HK0
    apply wp_seq_k
    intro K1 hK1
    go_cut [1] from 7 (fun v1 (y : World) => ∃ a c, v1 = .slice a N c ∧ SpQ y (.slice a N c) (unset sp gs) ∧ Row y w.heap.size [.int .i64 p.op, .int .u64 p.set.a, .int .u64 p.set.b, .int .u64 p.set.c, .int .u64 p.set.d, .int .i64 p.lo, .int .i64 p.hi, .int .i64 p.gr, .slice ad xs.length cap] 28 ∧ Below w.heap.size w y)
    case first =>
      clear hK1
      by_cases h6 : p.op = 6
      · have d6 : (p.op == 6) = true := by simp [h6]
        have hg2 := hgr (.inl h6)
        have hgs2 : gs = [p.gr.toNat] := by rw [hgs, if_pos h6]
        have hc := pwith_any (w.alloc (.cells #[.int .i64 p.op, .int .u64 p.set.a, .int .u64 p.set.b, .int .u64 p.set.c, .int .u64 p.set.d, .int .i64 p.lo, .int .i64 p.hi, .int .i64 p.gr, .slice ad xs.length cap] 28)) sa sc sp p.gr.toNat (-1) (-1) (by rw [HSPL.out]; exact HRW.out.2.2.1) (by rw [HSPL.out]; exact hN) (by rw [HSPL.out]; omega)
        rw [show ((p.gr.toNat : Nat) : Int) = p.gr by omega, HSPL.out] at hc
        have HC := hid hc
        have HG2 := hid hgs2
        clear h6 hg2 hgs2 hc hgs hgr hspl
        go_wp2_with fail
        refine HC.out.mono ?_
        rintro e z ⟨a, c, rfl, hb, hs⟩
        have HZ := hid (⟨hs, HRW.out.1.below hb HRW.out.1.lt, HRW.out.2.1.trans (hb.mono HRW.out.2.1.size)⟩ : _ ∧ _ ∧ _)
        clear hb hs HC
        go_wp2_with fail
        go_meet
        refine ⟨a, c, rfl, ?_, HZ.out.2.1, HZ.out.2.2⟩
        rw [HG2.out]
        exact HZ.out.1
      · have d6 : (p.op == 6) = false := by simp [h6]
        have hgs2 : gs = [] := by rw [hgs, if_neg h6]
        have HG2 := hid hgs2
        clear h6 hgs2 hgs hgr hspl
        go_wp2_with fail
        go_meet
        refine ⟨sa, sc, rfl, ?_, HRW.out.1, HRW.out.2.1⟩
        rw [HG2.out]
        exact HRW.out.2.2.1
    obtain ⟨a1, c1, rfl, hs1, hr1, hb1⟩ := hcut
    have HS := hid (⟨hs1, hr1, hb1⟩ : _ ∧ _ ∧ _)
    clear hs1 hr1 hb1 hgs hgr hspl q0 q2 q3 HRW
    generalize wc = z at HS ⊢
    refine hK1 _ _ ?_
    clear hK1
    have q0 := HS.out.2.1.c9
    go_wp2_with fail
    go_loopw [1, 18] (fun v1 v18 wr => ∃ (k : Nat) (a : Option Addr) (c : Nat), v1 = .slice a N c ∧ v18 = .int .i64 k ∧ k ≤ xs.length ∧ Hid (SpQ wr (.slice a N c) (unset (unset sp gs) (withinAll (xs.take k))) ∧ Below w.heap.size w wr)) (fun _ v18 _ => xs.length - (intOf v18).toNat)
    case atStart => exact ⟨0, a1, c1, rfl, rfl, Nat.zero_le _, by simpa [withinAll, unset] using HS.out.1, HS.out.2.2⟩
    case round =>
      obtain ⟨k, a, c, rfl, rfl, hk, HX⟩ := hrel
      clear HS q0
      by_cases hlt : k < xs.length
      · have HBL : Hid (Below wb.heap.size wb wr) := HBW.out.trans (HX.out.2.mono HBW.out.size)
        obtain ⟨b, o, p', ad1, n1, cap1, e3, HC, HI0, hbb⟩ := HAL.out.kid HBL.out k hlt
        subst e3
        have hltI : (k : Int) < xs.length := by omega
        have hwk : IntKind.i64.wrap ((k : Int) + 1) = ((k + 1 : Nat) : Int) := by rw [IntKind.wrap_i64]; omega
        go_upto_region 6 with (with_reducible (refine wpList_load_agg rfl 28 _ rfl b (o + (k * 9)) rfl _ _ HC.out Tryd.underlying28 rfl (size_re9 _ _ _ _ _ _ _ _ _) ?_))
        have hal : Below wr.heap.size wr (wr.alloc (.cells #[.int .i64 p'.op, .int .u64 p'.set.a, .int .u64 p'.set.b, .int .u64 p'.set.c, .int .u64 p'.set.d, .int .i64 p'.lo, .int .i64 p'.hi, .int .i64 p'.gr, .slice ad1 n1 cap1] 28)) := (Below.refl _ _).alloc (Nat.le_refl _) _
        have hbw2 := HX.out.2.trans (hal.mono HX.out.2.size)
        have hc := HIH.out xs[k] (List.getElem_mem _) (wr.alloc (.cells #[.int .i64 p'.op, .int .u64 p'.set.a, .int .u64 p'.set.b, .int .u64 p'.set.c, .int .u64 p'.set.d, .int .i64 p'.lo, .int .i64 p'.hi, .int .i64 p'.gr, .slice ad1 n1 cap1] 28)) _ a c _ HI0.out (Re.oks_get9 HOK.out k hlt) (HBW.out.trans (hbw2.mono HBW.out.size)) (by rw [unset_len, unset_len]; exact HSPL.out) (HX.out.1.below hal) (HT.out.on hbw2)
        have HCC := hid hc
        have HB2 := hid hbw2
        clear hc hal hbw2
        go_wp2_with fail
        refine HCC.out.mono ?_
        rintro e w2 ⟨a2, c2, rfl, hb2, hs2⟩
        have HN2 : Hid (SpQ w2 (.slice a2 N c2) (unset (unset sp gs) (withinAll (xs.take (k + 1)))) ∧ Below w.heap.size w w2) := by
          refine ⟨?_, HB2.out.trans (hb2.mono HB2.out.size)⟩
          rw [withinAll_step xs k hlt, unset_app]
          exact hs2
        clear hb2 hs2 HCC
        go_wp2_with fail
        refine ⟨⟨k + 1, a2, c2, rfl, by go_num, by omega, HN2.out⟩, ?_⟩
        simp [intOf] <;> omega
      · obtain rfl : k = xs.length := by omega
        have hltI : ¬ ((xs.length : Nat) : Int) < (xs.length : Int) := by omega
        go_wp2_with fail
        go_ret
        have h9 := HX.out.1
        rw [List.take_length, HGS.out] at h9
        exact ⟨a, c, rfl, HX.out.2, h9⟩
end Go.Proofs.YthnpbopnpdlmnaaDoor

/- The reference of the parses: spans without groups, anchors, back references. -/
namespace Go.Proofs.YthnpbopnpdlmnaaDoor
open Go.RowKit
attribute [local go_sem] gives givesUpon

theorem ext_list9 (s : ByteArray) (i k : Nat) : (s.extract i k).toList = (s.data.toList.drop i).take (k - i) := by
  rw [ByteArray.toList_eq, ByteArray.data_extract, Array.toList_extract]

end Go.Proofs.YthnpbopnpdlmnaaDoor

/- The reference of the parses: anchors and back references. -/
namespace Go.Proofs.YthnpbopnpdlmnaaDoor
open Go.RowKit
attribute [local go_sem] gives givesUpon

def holdsOf (s : List UInt8) (lines : Bool) (op : Int) (i : Nat) : Bool :=
  if op = 7 then decide (i = 0) || lines && decide (byteAt s (i - 1) = 10) else decide (i = s.length) || lines && decide (byteAt s i = 10)
def againOf (s : List UInt8) (g : Int × Int) (i : Nat) : Bool :=
  decide (0 ≤ g.1) && decide (i + (g.2 - g.1).toNat ≤ s.length) && decide ((s.drop i).take (g.2 - g.1).toNat = (s.drop g.1.toNat).take (g.2 - g.1).toNat)

theorem Row.two9 {w : World} {B : Nat} {a b : Value} {T : TypeId} (h : Row w B [a, b] T) : w.cell? ⟨B, 0, none⟩ = some a ∧ w.cell? ⟨B, 1, none⟩ = some b := ⟨h.cell 0, h.cell 1⟩
end Go.Proofs.YthnpbopnpdlmnaaDoor

/- A region that draws its order and holds one call, for which all that comes before it is needed, and which all that comes behind it waits for: first a plan, then the call, then a plan. Nothing here speaks of the program. -/
namespace Go.Proofs.YthnpbopnpdlmnaaDoor
open Go.RowKit

section
variable {P : Program} {ops : Array Oper} {Q : Exit → Act → World → Prop}

def planC (ops : Array Oper) (n m : Nat) : Bool :=
  decide (n < ops.size) &&
  ((List.range ops.size).all fun i => (List.range ops.size).all fun j => decide (i = j) || (dstOf ops i).isNone || decide (dstOf ops i ≠ dstOf ops j)) &&
  ((List.range ops.size).all fun i => match dstOf ops i with | some d => decide (d < m) | none => true) &&
  ((List.range n).all fun i => (List.range (n + 1)).any fun j => decide (i < j) && waits ops j i) &&
  ((List.range ops.size).all fun t => decide (t ≤ n) || (List.range t).any fun j => decide (n ≤ j) && waits ops t j) &&
  ((List.range ops.size).all fun t => match ops[t]? with | some o => o.after.all fun e => !Region.binds .any e || decide (e.on < t) | none => true)
theorem planC_B {n m : Nat} (h : planC ops n m = true) : planB ops ops.size m = true := by
  simp only [planC, Bool.and_eq_true, decide_eq_true_eq] at h
  obtain ⟨⟨⟨⟨⟨h1, h2⟩, h3⟩, h4⟩, h5⟩, h6⟩ := h
  simp only [planB, Bool.and_eq_true, Bool.or_eq_true, decide_eq_true_eq]
  refine ⟨⟨⟨⟨⟨Nat.le_refl _, h2⟩, h3⟩, .inl trivial⟩, ?_⟩, h6⟩
  exact List.all_eq_true.2 fun t ht => by
    have := List.mem_range.1 ht
    simp; left; omega

theorem not_ready2 {n m : Nat} {R : World → World → Prop} {w0 : World} {a0 : Act} {φ : Nat → Value → World → Prop} {listed : Array Bool} {a : Act} {w : World} (hB : planC ops n m = true) (hn : n < ops.size)
    (inv : Inv ops n R w0 a0 φ listed a w) : ∀ (d i : Nat), n - i = d → i < n → listed.getD i false = false → ∀ t, n ≤ t → t ∉ Region.ready .any ops listed := by
  simp only [planC, Bool.and_eq_true, decide_eq_true_eq] at hB
  obtain ⟨⟨⟨⟨⟨_, _⟩, _⟩, hs'⟩, hc⟩, _⟩ := hB
  intro d
  induction d using Nat.strongRecOn with
  | _ d ih =>
    intro i hd hi hun t ht hr
    obtain ⟨_, ot, hot, hall⟩ := mem_ready.1 hr
    have htlt : t < ops.size := (Array.getElem?_eq_some_iff.1 hot).1
    by_cases htn : t = n
    · subst htn
      obtain ⟨j, hj, hj2⟩ := List.any_eq_true.1 (List.all_eq_true.1 hs' i (List.mem_range.2 hi))
      simp only [Bool.and_eq_true, decide_eq_true_eq] at hj2
      obtain ⟨oj, hoj, e, he, hb, hon⟩ := waits_spec hj2.2
      have hjle : j ≤ t := by have := List.mem_range.1 hj; omega
      by_cases hjt : j = t
      · subst hjt
        have : oj = ot := Option.some.inj (hoj.symm.trans hot)
        subst this
        have h2 := hall e he hb
        rw [hon, hun] at h2
        cases h2
      · cases hl : listed.getD j false with
        | true =>
          have h2 := inv.closed j oj hoj hl e he hb
          rw [hon, hun] at h2
          cases h2
        | false => exact ih (t - j) (by omega) j rfl (by omega) hl t (Nat.le_refl _) hr
    · have h1 := List.all_eq_true.1 hc t (List.mem_range.2 htlt)
      simp only [Bool.or_eq_true, decide_eq_true_eq] at h1
      rcases h1 with h1 | h1
      · omega
      · obtain ⟨j, hj, hj2⟩ := List.any_eq_true.1 h1
        simp only [Bool.and_eq_true, decide_eq_true_eq] at hj2
        have hjt := List.mem_range.1 hj
        obtain ⟨o', ho', e, he, hb, hon⟩ := waits_spec hj2.2
        have : o' = ot := Option.some.inj (ho'.symm.trans hot)
        subst this
        have h2 := hall e he hb
        rw [hon, bothD (inv.tail j hj2.1 (by omega))] at h2
        cases h2

theorem inv_one {n m : Nat} {R : World → World → Prop} {w0 : World} {a0 : Act} {φ : Nat → Value → World → Prop} (hrf : ∀ x, R x x) (htr : ∀ x y z, R x y → R y z → R x z) (hφ : ∀ i v x y, R x y → φ i v x → φ i v y)
    (hB : planC ops n m = true) (_hm : a0.tmps.size = m)
    (hop : ∀ i o, i < n → ops[i]? = some o → ∀ vs w, R w0 w → (∀ j, j < n → waits ops i j = true → φ j (vs j) w) → StepOf P ops R (φ i) o (fill ops vs n a0) w)
    (hfin : ∀ vs w, R w0 w → (∀ j, j < n → φ j (vs j) w) → ∀ (fuel : Nat) (listed : Array Bool), listed.size = ops.size → (∀ j, j < n → listed.getD j false = true) → (∀ j, n ≤ j → j < ops.size → listed.getD j true = false) → (∀ j oj, ops[j]? = some oj → listed.getD j false = true → ∀ e ∈ oj.after, Region.binds .any e = true → listed.getD e.on false = true) → left ops listed ≤ fuel → wpAny P .any ops Q fuel listed (fill ops vs n a0) w) :
    ∀ (fuel : Nat) (listed : Array Bool) (a : Act) (w : World), Inv ops n R w0 a0 φ listed a w → left ops listed ≤ fuel → wpAny P .any ops Q fuel listed a w := by
  have hBC := hB
  have hB0 := planC_B hB
  simp only [planC, Bool.and_eq_true, decide_eq_true_eq] at hB
  obtain ⟨⟨⟨⟨⟨hn, hdist⟩, hbnd⟩, _⟩, hc⟩, _⟩ := hB
  have hdist' : ∀ i j, i < n → j < n → j ≠ i → dstOf ops i = none ∨ dstOf ops i ≠ dstOf ops j := by
    intro i j hi hj hne
    have h1 := List.all_eq_true.1 (List.all_eq_true.1 hdist i (List.mem_range.2 (by omega))) j (List.mem_range.2 (by omega))
    simp only [Bool.or_eq_true, decide_eq_true_eq, Option.isNone_iff_eq_none] at h1
    rcases h1 with (h1 | h1) | h1
    · omega
    · exact .inl h1
    · exact .inr h1
  intro fuel
  induction fuel with
  | zero =>
    intro listed a w inv hl
    by_cases hdone : ∀ j, j < n → listed.getD j false = true
    · obtain ⟨vs, rfl, hv⟩ := inv.facts
      exact hfin vs w inv.above (fun j hj => hv j hj (hdone j hj)) _ listed inv.size hdone inv.tail inv.closed hl
    · exfalso
      obtain ⟨j, hj⟩ := Classical.not_forall.1 hdone
      obtain ⟨hj1, hj2⟩ := Classical.not_imp.1 hj
      have : 0 < left ops listed := by
        unfold left
        refine List.countP_pos_iff.2 ⟨j, List.mem_range.2 (by omega), ?_⟩
        rw [inD (by rw [inv.size]; omega) (by simpa using hj2)]; rfl
      omega
  | succ fuel ih =>
    intro listed a w inv hl
    by_cases hdone : ∀ j, j < n → listed.getD j false = true
    · obtain ⟨vs, rfl, hv⟩ := inv.facts
      exact hfin vs w inv.above (fun j hj => hv j hj (hdone j hj)) _ listed inv.size hdone inv.tail inv.closed hl
    · obtain ⟨j, hj⟩ := Classical.not_forall.1 hdone
      obtain ⟨hj1, hj2⟩ := Classical.not_imp.1 hj
      have hj3 : listed.getD j false = false := by simpa using hj2
      refine ⟨fun h0 => absurd h0 (least_ready hB0 inv.size (i := j) (by omega) (inD (by rw [inv.size]; omega) hj3)), fun i hi => ?_⟩
      have hleft := left_set hi
      have hin : i < n := by
        rcases Nat.lt_or_ge i n with h | h
        · exact h
        · rcases Nat.lt_or_ge n ops.size with hns | hns
          · exact absurd hi (not_ready2 hBC hns inv _ j rfl hj1 hj3 i h)
          · obtain ⟨_, o, ho, _⟩ := mem_ready.1 hi
            have hlt : i < ops.size := (Array.getElem?_eq_some_iff.1 ho).1
            omega
      obtain ⟨hun, o, ho, hall⟩ := mem_ready.1 hi
      have hlt : i < ops.size := (Array.getElem?_eq_some_iff.1 ho).1
      obtain ⟨vs, rfl, hv⟩ := inv.facts
      have hdeps : ∀ j, j < n → waits ops i j = true → φ j (vs j) w := by
        intro j hjn hw
        obtain ⟨o', ho', e, he, hb, hon⟩ := waits_spec hw
        have : o' = o := Option.some.inj (ho'.symm.trans ho)
        subst this
        have h3 := hall e he hb
        rw [hon] at h3
        exact hv j hjn h3
      have hst := hop i o hin ho vs w inv.above hdeps
      have hd0 : dstOf ops i = o.dst := by simp [dstOf, ho]
      have hnext : ∀ u w', R w w' → φ i u w' → wpAny P .any ops Q fuel (listed.setIfInBounds i true) ((fill ops vs n a0).put o.dst u) w' := by
        intro u w' hR hu
        refine ih _ _ _ ⟨by simp [inv.size], fun j oj hoj hlj e he hb => ?_, fun t ht ht' => by rw [getD_set_ne true (by omega)]; exact inv.tail t ht ht', htr _ _ _ inv.above hR, ⟨fun j => if j = i then u else vs j, ?_, fun j hjn hlj => ?_⟩⟩ (by omega)
        · by_cases hij : i = j
          · subst hij
            have : oj = o := Option.some.inj (hoj.symm.trans ho)
            subst this
            exact getD_set_true (hall e he hb)
          · rw [getD_set_ne false hij] at hlj
            exact getD_set_true (inv.closed j oj hoj hlj e he hb)
        · rw [← hd0]
          exact fill_set vs a0 i u n (fun j hj hne => hdist' i j hin hj hne) hin
        · by_cases hij : j = i
          · subst hij; simpa using hu
          · simp only [hij, if_false]
            rw [getD_set_ne false (Ne.symm hij)] at hlj
            exact hφ j _ _ _ hR (hv j hjn hlj)
      unfold wpOp
      rw [ho]
      show if Region.wanted o (yielded ops (fill ops vs n a0).tmps) = true then _ else _
      unfold StepOf at hst
      split
      · rename_i hw
        rw [if_pos hw] at hst
        exact .inl (hst.wp fun v w' ⟨h1, h2⟩ => hnext v w' h1 h2)
      · rename_i hw
        rw [if_neg hw] at hst
        exact hnext undef w (hrf w) hst

theorem inv_two (k : Nat) {n m : Nat} {R : World → World → Prop} {w0 : World} {a0 : Act} {φ : Nat → Value → World → Prop} (hrf : ∀ x, R x x) (htr : ∀ x y z, R x y → R y z → R x z) (hφ : ∀ i v x y, R x y → φ i v x → φ i v y)
    (hB : planB ops n m = true) (_hm : a0.tmps.size = m)
    (hop : ∀ i o, k ≤ i → i < n → ops[i]? = some o → ∀ vs w, R w0 w → (∀ j, j < n → waits ops i j = true → φ j (vs j) w) → StepOf P ops R (φ i) o (fill ops vs n a0) w)
    (hfin : ∀ vs w, R w0 w → (∀ j, j < n → φ j (vs j) w) → wpList P ops Q (ops.toList.drop n) (fill ops vs n a0) w) :
    ∀ (fuel : Nat) (listed : Array Bool) (a : Act) (w : World), Inv ops n R w0 a0 φ listed a w → (∀ j, j < k → listed.getD j false = true) → left ops listed ≤ fuel → wpAny P .any ops Q fuel listed a w := by
  have hB0 := hB
  simp only [planB, Bool.and_eq_true, Bool.or_eq_true, decide_eq_true_eq] at hB
  obtain ⟨⟨⟨⟨⟨hn, hdist⟩, hbnd⟩, _⟩, hc⟩, _⟩ := hB
  have hdist' : ∀ i j, i < n → j < n → j ≠ i → dstOf ops i = none ∨ dstOf ops i ≠ dstOf ops j := by
    intro i j hi hj hne
    have h1 := List.all_eq_true.1 (List.all_eq_true.1 hdist i (List.mem_range.2 hi)) j (List.mem_range.2 hj)
    simp only [Bool.or_eq_true, decide_eq_true_eq, Option.isNone_iff_eq_none] at h1
    rcases h1 with (h1 | h1) | h1
    · omega
    · exact .inl h1
    · exact .inr h1
  intro fuel
  induction fuel with
  | zero =>
    intro listed a w inv hkk hl
    by_cases hdone : ∀ j, j < n → listed.getD j false = true
    · obtain ⟨vs, rfl, hv⟩ := inv.facts
      exact tail_any hB0 0 n listed _ w (Nat.le_refl _) hn inv.size hdone inv.tail hl (hfin vs w inv.above fun j hj => hv j hj (hdone j hj))
    · exfalso
      obtain ⟨j, hj⟩ := Classical.not_forall.1 hdone
      obtain ⟨hj1, hj2⟩ := Classical.not_imp.1 hj
      have : 0 < left ops listed := by
        unfold left
        refine List.countP_pos_iff.2 ⟨j, List.mem_range.2 (by omega), ?_⟩
        rw [inD (by rw [inv.size]; omega) (by simpa using hj2)]; rfl
      omega
  | succ fuel ih =>
    intro listed a w inv hkk hl
    by_cases hdone : ∀ j, j < n → listed.getD j false = true
    · obtain ⟨vs, rfl, hv⟩ := inv.facts
      exact tail_any hB0 _ n listed _ w (Nat.le_refl _) hn inv.size hdone inv.tail hl (hfin vs w inv.above fun j hj => hv j hj (hdone j hj))
    · obtain ⟨j, hj⟩ := Classical.not_forall.1 hdone
      obtain ⟨hj1, hj2⟩ := Classical.not_imp.1 hj
      have hj3 : listed.getD j false = false := by simpa using hj2
      refine ⟨fun h0 => absurd h0 (least_ready hB0 inv.size (i := j) (by omega) (inD (by rw [inv.size]; omega) hj3)), fun i hi => ?_⟩
      have hleft := left_set hi
      have hin : i < n := by
        rcases Nat.lt_or_ge i n with h | h
        · exact h
        · rcases Nat.lt_or_ge n ops.size with hns | hns
          · exact absurd hi (not_ready hB0 hns inv _ j rfl hj1 hj3 i h)
          · obtain ⟨_, o, ho, _⟩ := mem_ready.1 hi
            have hlt : i < ops.size := (Array.getElem?_eq_some_iff.1 ho).1
            omega
      obtain ⟨hun, o, ho, hall⟩ := mem_ready.1 hi
      have hlt : i < ops.size := (Array.getElem?_eq_some_iff.1 ho).1
      obtain ⟨vs, rfl, hv⟩ := inv.facts
      have hdeps : ∀ j, j < n → waits ops i j = true → φ j (vs j) w := by
        intro j hjn hw
        obtain ⟨o', ho', e, he, hb, hon⟩ := waits_spec hw
        have : o' = o := Option.some.inj (ho'.symm.trans ho)
        subst this
        have h3 := hall e he hb
        rw [hon] at h3
        exact hv j hjn h3
      have hki : k ≤ i := by
        rcases Nat.lt_or_ge i k with h | h
        · have := hkk i h
          rw [bothD hun] at this
          cases this
        · exact h
      have hst := hop i o hki hin ho vs w inv.above hdeps
      have hd0 : dstOf ops i = o.dst := by simp [dstOf, ho]
      have hnext : ∀ u w', R w w' → φ i u w' → wpAny P .any ops Q fuel (listed.setIfInBounds i true) ((fill ops vs n a0).put o.dst u) w' := by
        intro u w' hR hu
        refine ih _ _ _ ⟨by simp [inv.size], fun j oj hoj hlj e he hb => ?_, fun t ht ht' => by rw [getD_set_ne true (by omega)]; exact inv.tail t ht ht', htr _ _ _ inv.above hR, ⟨fun j => if j = i then u else vs j, ?_, fun j hjn hlj => ?_⟩⟩ (fun j hj => getD_set_true (hkk j hj)) (by omega)
        · by_cases hij : i = j
          · subst hij
            have : oj = o := Option.some.inj (hoj.symm.trans ho)
            subst this
            exact getD_set_true (hall e he hb)
          · rw [getD_set_ne false hij] at hlj
            exact getD_set_true (inv.closed j oj hoj hlj e he hb)
        · rw [← hd0]
          exact fill_set vs a0 i u n (fun j hj hne => hdist' i j hin hj hne) hin
        · by_cases hij : j = i
          · subst hij; simpa using hu
          · simp only [hij, if_false]
            rw [getD_set_ne false (Ne.symm hij)] at hlj
            exact hφ j _ _ _ hR (hv j hjn hlj)
      unfold wpOp
      rw [ho]
      show if Region.wanted o (yielded ops (fill ops vs n a0).tmps) = true then _ else _
      unfold StepOf at hst
      split
      · rename_i hw
        rw [if_pos hw] at hst
        exact .inl (hst.wp fun v w' ⟨h1, h2⟩ => hnext v w' h1 h2)
      · rename_i hw
        rw [if_neg hw] at hst
        exact hnext undef w (hrf w) hst

theorem fill_self (A : Act) : ∀ k, fill ops (fun j => match dstOf ops j with | some d => A.tmps.getD d undef | none => undef) k A = A := by
  intro k
  induction k with
  | zero => rfl
  | succ k ih =>
    rw [fill, ih]
    cases hd : dstOf ops k with
    | none => rfl
    | some d =>
      obtain ⟨tmps, defers⟩ := A
      simp only [Act.put]
      congr 1
      apply Array.ext
      · simp
      · intro i h1 h2
        by_cases hdi : d = i
        · subst hdi
          simp [h2]
        · rw [Array.getElem_setIfInBounds (by simpa using h1), if_neg hdi]
def AfterC (P : Program) (l : List Oper) (Q : Exit → Act → World → Prop) (n N : Nat) (A : Act) (d : Option Tmp) (v : Value) (x : World) : Prop :=
  Plan P l.toArray Q (fun x y => x = y) x N (fun vs => fill l.toArray vs N (A.put d v)) (l.drop (n + 1)) (n + 1) [(n, fun u _ => u = v)]
def CallSt (P : Program) (l : List Oper) (Q : Exit → Act → World → Prop) (n N : Nat) (A : Act) (x : World) : Prop :=
  ∀ o, l[n]? = some o → ∀ K : Value → World → Prop, (∀ v x', AfterC P l Q n N A o.dst v x' → K v x') → if Region.wanted o (yielded l.toArray A.tmps) then gives P o A x K else K undef x
theorem PlanEnd {R : World → World → Prop} {w0 : World} {N : Nat} {F : (Nat → Value) → Act} {i : Nat} {φs : List (Nat × (Value → World → Prop))} {C : Act → World → Prop} (hN : ops.size ≤ N)
    (h : ∀ vs w, R w0 w → (∀ (k j : Nat) (φ : Value → World → Prop), φs[k]? = some (j, φ) → φ (vs j) w) → C (F vs) w) : Plan P ops (fun _ A x => C A x) R w0 N F [] i φs :=
  Plan.nil fun vs w hR hF => by
    rw [List.drop_of_length_le (by simpa using hN)]
    exact h vs w hR hF

theorem wp_region_two {id : Nat} {a : Act} {w : World} {l : List Oper} (n N : Nat) (hN : l.length = N) (R : World → World → Prop) (hm : P.follows .mixedOrders = true) (hB : (planC l.toArray n a.tmps.size && (dstOf l.toArray n).isSome) = true)
    (hrf : ∀ x, R x x) (htr : ∀ x y z, R x y → R y z → R x z) (h : Plan P l.toArray (fun _ A x => CallSt P l Q n N A x) R w.drew N (fun vs => fill l.toArray vs n a) (l.take n) 0 []) : (Code.region id l.toArray true).wp P Q a w := by
  subst hN
  obtain ⟨hB, hds⟩ := Bool.and_eq_true_iff.1 hB
  have hBB := planC_B hB
  obtain ⟨full, f1, f2, f3, f4, f5⟩ := Plan.spec _ _ _ [] h rfl (fun j φ hm => by cases hm) (fun φ hm => by cases hm)
  have hn : n < l.length := by
    simp only [planC, Bool.and_eq_true, decide_eq_true_eq] at hB
    simpa using hB.1.1.1.1.1
  have hbnd : ∀ d, dstOf l.toArray n = some d → d < a.tmps.size := by
    intro d hd
    simp only [planC, Bool.and_eq_true, decide_eq_true_eq] at hB
    have := List.all_eq_true.1 hB.1.1.1.2 n (List.mem_range.2 (by simpa using hn))
    simp only [hd, decide_eq_true_eq] at this
    exact this
  have hlen : full.length = n := by rw [f1]; simp; omega
  refine wp_region_any hm (inv_one (R := R) (w0 := w.drew) (a0 := a) (n := n) (φ := fun i => full.getD i (fun _ _ => True)) hrf htr (fun i v x y hR hp => ?_) hB rfl (fun i o hi ho vs x hR hF => ?_) (fun vs x hR hF fuel listed hsz hd hu hcl hlf => ?_) _ _ _ _ ⟨by simp, fun j oj _ hl => (by rw [repD] at hl; cases hl), fun t _ ht => inD (by simpa using ht) (repD _ _), hrf _, ⟨fun j => match dstOf l.toArray j with | some d => a.tmps.getD d undef | none => undef, (fill_self a n).symm, fun j _ hj => (by rw [repD] at hj; cases hj)⟩⟩ ?_)
  · by_cases hi : i < full.length
    · have he : full.getD i (fun _ _ => True) = full[i] := by simp [hi]
      simp only [he] at hp ⊢
      exact f3 _ (List.getElem_mem hi) v x y hR hp
    · have he : full.getD i (fun _ _ => True) = fun _ _ => True := by rw [List.getD_eq_getElem?_getD, List.getElem?_eq_none (by omega)]; rfl
      simp only [he]
  · have he : full[0 + i]? = some (full.getD i (fun _ _ => True)) := by rw [Nat.zero_add]; simp [show i < full.length by omega]
    refine f4 i o _ (by rw [List.getElem?_take]; rw [if_pos hi]; simpa using ho) he vs x hR fun j φ' hj hf hw => ?_
    have := hF j (by omega) (by rw [Nat.zero_add] at hw; exact hw)
    rwa [List.getD_eq_getElem?_getD, hf] at this
  · have hcall := f5 vs x hR fun j φ hj => by
      have := hF j (by rw [← hlen]; exact (List.getElem?_eq_some_iff.1 hj).1)
      rwa [List.getD_eq_getElem?_getD, hj] at this
    rw [List.drop_of_length_le (by simp)] at hcall
    have hcall' : CallSt P l Q n l.length (fill l.toArray vs n a) x := hcall
    have hln : listed.getD n true = false := hu n (Nat.le_refl _) (by simpa using hn)
    cases fuel with
    | zero =>
      exfalso
      have : 0 < left l.toArray listed := by
        unfold left
        exact List.countP_pos_iff.2 ⟨n, List.mem_range.2 (by simpa using hn), by rw [hln]; rfl⟩
      omega
    | succ fuel =>
      refine ⟨fun h0 => absurd h0 (least_ready hBB hsz (i := n) (by simpa using hn) hln), fun i hi => ?_⟩
      have hleft := left_set hi
      obtain ⟨hun, o, ho, hall⟩ := mem_ready.1 hi
      have hlt : i < l.toArray.size := (Array.getElem?_eq_some_iff.1 ho).1
      have hin : i = n := by
        rcases Nat.lt_trichotomy i n with h1 | h1 | h1
        · have := hd i h1
          rw [bothD hun] at this
          cases this
        · exact h1
        · exfalso
          simp only [planC, Bool.and_eq_true, decide_eq_true_eq] at hB
          have h2 := List.all_eq_true.1 hB.1.2 i (List.mem_range.2 hlt)
          simp only [Bool.or_eq_true, decide_eq_true_eq] at h2
          rcases h2 with h2 | h2
          · omega
          · obtain ⟨j, hj, hj2⟩ := List.any_eq_true.1 h2
            simp only [Bool.and_eq_true, decide_eq_true_eq] at hj2
            have hjt := List.mem_range.1 hj
            obtain ⟨o', ho', e, he, hb, hon⟩ := waits_spec hj2.2
            have : o' = o := Option.some.inj (ho'.symm.trans ho)
            subst this
            have h3 := hall e he hb
            rw [hon, bothD (hu j hj2.1 (by omega))] at h3
            cases h3
      subst hin
      have hst := hcall' o (by simpa using ho)
      have hd0 : dstOf l.toArray i = o.dst := by simp [dstOf, ho]
      obtain ⟨d, hdd⟩ := Option.isSome_iff_exists.1 hds
      have hnext : ∀ u w', AfterC P l Q i l.length (fill l.toArray vs i a) o.dst u w' → wpAny P .any l.toArray Q fuel (listed.setIfInBounds i true) ((fill l.toArray vs i a).put o.dst u) w' := by
        intro u w' hA
        unfold AfterC at hA
        obtain ⟨full2, g1, g2, g3, g4, g5⟩ := Plan.spec _ _ _ ((List.replicate i (fun _ _ => True)) ++ [fun v _ => v = u]) hA (by simp) (fun j φ hm => by
          have := List.mem_singleton.1 hm
          injection this with e1 e2
          subst e1; subst e2
          simp) (fun φ hm v x y hR hp => by subst hR; exact hp)
        have hl2 : full2.length = l.length := by rw [g1]; simp; omega
        have hpre : full2[i]? = some (fun v _ => v = u) := g2 i _ (by simp)
        have hlow : ∀ j, j < i → full2[j]? = some (fun _ _ => True) := fun j hj => g2 j _ (by rw [List.getElem?_append_left (by simpa using hj)]; simp [hj])
        refine inv_two (i + 1) (R := fun x y => x = y) (w0 := w') (a0 := (fill l.toArray vs i a).put o.dst u) (n := l.toArray.size) (m := ((fill l.toArray vs i a).put o.dst u).tmps.size) (φ := fun j => full2.getD j (fun _ _ => True)) (fun _ => rfl) (fun _ _ _ => Eq.trans) (fun j v x y hR hp => by subst hR; exact hp) (by rw [size_put, size_fill]; exact hBB) rfl (fun j o2 hj1 hj ho2 vs2 x2 hR hF => ?_) (fun vs2 x2 hR hF => ?_) fuel _ _ _ ⟨by simp [hsz], fun j oj hoj hlj e he hb => ?_, fun t ht ht' => by omega, rfl, ⟨_, (fill_self _ _).symm, fun j hj hlj => ?_⟩⟩ (fun j hj => ?_) (by omega)
        · have hj2 : j < l.length := by simpa using hj
          have he : full2[i + 1 + (j - (i + 1))]? = some (full2.getD j (fun _ _ => True)) := by rw [show i + 1 + (j - (i + 1)) = j by omega]; simp [show j < full2.length by omega]
          have hx := g4 (j - (i + 1)) o2 _ (by rw [List.getElem?_drop, show i + 1 + (j - (i + 1)) = j by omega]; simpa using ho2) he vs2 x2 hR fun q φ' hq hf hw => by
            have := hF q (by simpa using (by omega : q < l.length)) (by rw [show i + 1 + (j - (i + 1)) = j by omega] at hw; exact hw)
            rwa [List.getD_eq_getElem?_getD, hf] at this
          have e2 : l.toArray.size = l.length := by simp
          rw [e2]
          exact hx
        · have hx := g5 vs2 x2 hR fun q φ hq => by
            have := hF q (by have := (List.getElem?_eq_some_iff.1 hq).1; simpa using (by omega : q < l.length))
            rwa [List.getD_eq_getElem?_getD, hq] at this
          have e2 : l.toArray.size = l.length := by simp
          rw [e2]
          exact hx
        · by_cases hij : i = j
          · subst hij
            have : oj = o := Option.some.inj (hoj.symm.trans ho)
            subst this
            exact getD_set_true (hall e he hb)
          · rw [getD_set_ne false hij] at hlj
            exact getD_set_true (hcl j oj hoj hlj e he hb)
        · by_cases hij : i = j
          · subst hij
            simp only [List.getD_eq_getElem?_getD, hpre, Option.getD_some]
            have hd1 : o.dst = some d := hd0.symm.trans hdd
            simp only [hdd, hd1, Act.put]
            have hds2 : d < (fill l.toArray vs i a).tmps.size := by rw [size_fill]; exact hbnd d hdd
            simp [hds2]
          · rw [getD_set_ne false hij] at hlj
            rcases Nat.lt_or_ge j i with h1 | h1
            · simp only [List.getD_eq_getElem?_getD, hlow j h1, Option.getD_some]
            · exfalso
              have h2 := hu j (by omega) hj
              rw [bothD h2] at hlj
              cases hlj
        · rcases Nat.lt_or_ge j i with h1 | h1
          · exact getD_set_true (hd j h1)
          · obtain rfl : j = i := by omega
            rcases Nat.lt_or_ge j listed.size with h2 | h2
            · simp [h2]
            · rw [hsz] at h2; omega
      unfold wpOp
      rw [ho]
      show if Region.wanted o (yielded l.toArray (fill l.toArray vs i a).tmps) = true then _ else _
      have hst2 := hst (fun v w' => AfterC P l Q i l.length (fill l.toArray vs i a) o.dst v w') (fun v w' h => h)
      split
      · rename_i hw
        rw [if_pos hw] at hst2
        exact .inl (hst2.wp fun v w' h1 => hnext v w' h1)
      · rename_i hw
        rw [if_neg hw] at hst2
        exact hnext undef x hst2
  · unfold left
    refine Nat.le_trans List.countP_le_length ?_
    simp
end
end Go.Proofs.YthnpbopnpdlmnaaDoor
