/- The program's tree. -/
import Derived.Test.YtjjhdddlbgdkeaaDoorG09
import Derived.Test.YtjjhdddlbgdkeaaDoorG05
import Derived.Deep.DeepCutAuto
import Derived.Deep.CutBlock
import Derived.Test.YtjjhdddlbgdkeaaDoorG04
import Derived.Test.YtjjhdddlbgdkeaaDoorG03
import Derived.ChangeKeysEq
namespace Go.Proofs.YtjjhdddlbgdkeaaDoor
open Go.RowKit
attribute [local go_sem] gives givesUpon

mutual
/-- Alternatives and repetitions have arguments as they should. -/
def Re.fine : Re → Prop
  | .mk p xs => (p.op = 4 → 1 ≤ xs.length) ∧ (p.op = 5 → xs.length = 1) ∧ ((p.op = 6 → xs.length = 1) ∧ (p.op = 3 ∨ p.op = 4 ∨ p.op = 5 ∨ p.op = 6 ∨ xs = [])) ∧ Re.fines xs
def Re.fines : List Re → Prop
  | [] => True
  | t :: ts => t.fine ∧ Re.fines ts
end
theorem Re.fines_mem : ∀ (xs : List Re), Re.fines xs → ∀ a, a ∈ xs → a.fine
  | t :: ts, h, a, ha => by
    rw [Re.fines] at h
    rcases List.mem_cons.1 ha with rfl | ha
    · exact h.1
    · exact Re.fines_mem ts h.2 a ha
theorem Re.csizes_app : ∀ (xs ys : List Re), Re.csizes (xs ++ ys) = Re.csizes xs + Re.csizes ys
  | [], ys => by simp [Re.csizes]
  | t :: ts, ys => by rw [List.cons_append, Re.csizes, Re.csizes, Re.csizes_app ts ys]; omega
theorem Re.gens_app : ∀ (xs ys : List Re) (n : Nat), Re.gens (xs ++ ys) n = Re.gens xs n ++ Re.gens ys (n + Re.csizes xs)
  | [], ys, n => by simp [Re.gens, Re.csizes]
  | t :: ts, ys, n => by rw [List.cons_append, Re.gens, Re.gens, Re.csizes, Re.gens_app ts ys, List.append_assoc, Nat.add_assoc]
theorem StR.kids {xs : List Re} {k : Nat} (hk : k < xs.length) {L M N : List Inst} {a b c : Bool} (h : StR (Re.csizes (xs.take k)) (Re.gens (xs.take k)) L a M b) (h2 : StR xs[k].csize xs[k].gen M b N c) : StR (Re.csizes (xs.take (k + 1))) (Re.gens (xs.take (k + 1))) L a N c := by
  have htk : xs.take (k + 1) = xs.take k ++ [xs[k]] := by rw [List.take_add_one, List.getElem?_eq_getElem hk]; rfl
  have h3 := h.trans h2 (Re.gens_len _)
  have e1 : Re.csizes (xs.take (k + 1)) = Re.csizes (xs.take k) + xs[k].csize := by rw [htk, Re.csizes_app]; simp [Re.csizes]
  have e2 : Re.gens (xs.take (k + 1)) = fun n => Re.gens (xs.take k) n ++ xs[k].gen (n + Re.csizes (xs.take k)) := by
    funext n
    rw [htk, Re.gens_app]; simp [Re.gens]
  rw [e1, e2]
  exact h3
theorem FrB.go0 {go go1 : Option Nat} {w : World} {o : Obj} (h : GoTo (w.alloc o) go go1) : GoTo w go go1 := by
  rcases h with h | ⟨g, h, h2⟩
  · exact .inl h
  · exact .inr ⟨g, h, by simp at h2; omega⟩

-- def R9 := [.int .i64 p.op, .int .u64 p.set.a, .int .u64 p.set.b, .int .u64 p.set.c, .int .u64 p.set.d, .int .i64 p.lo, .int .i64 p.hi, .int .i64 p.gr, .slice ad xs.length cap]
-- def Q9 := [.int .i64 p'.op, .int .u64 p'.set.a, .int .u64 p'.set.b, .int .u64 p'.set.c, .int .u64 p'.set.d, .int .i64 p'.lo, .int .i64 p'.hi, .int .i64 p'.gr, .slice ad' n' cap']
set_option maxRecDepth 100000 in
set_option maxHeartbeats 8000000 in
theorem btree_any {wb : World} (BB : Nat) (hwb : wb.heap.size ≤ BB) (t : Re) : t.fine → t.size ≤ 1048576 → ∀ (w : World) (cs : List Value) (go : Option Nat) (L : List Inst) (ov : Bool), t.In wb cs → Below wb.heap.size wb w → BldAt w BB go L ov → (ov = true → L.length = 4096) →
    Calls Tryd.prog 32 #[.pointer (some ⟨BB, 0, none⟩), .agg cs.toArray] w (TPost BB go t.csize t.gen L ov w) := by
  induction t using Re.ind with
  | h p xs ih =>
    intro hfine hsz w cs go L ov hIn hbw hB hfull
    rw [Re.fine] at hfine
    obtain ⟨hf4, hf5, -, hfs⟩ := hfine
    rw [Re.In] at hIn
    obtain ⟨ad, cap, rfl, hwf, hlc, hcm, hnil, hall⟩ := hIn
    rw [Re.size_mk] at hsz
    have hlen := Re.sizes_len xs
    have HIH : Hid (∀ a, a ∈ xs → ∀ (w : World) (cs : List Value) (go : Option Nat) (L : List Inst) (ov : Bool), a.In wb cs → Below wb.heap.size wb w → BldAt w BB go L ov → (ov = true → L.length = 4096) → Calls Tryd.prog 32 #[.pointer (some ⟨BB, 0, none⟩), .agg cs.toArray] w (TPost BB go a.csize a.gen L ov w)) := fun a ha => ih a ha (Re.fines_mem xs hfs a ha) (by
      obtain ⟨i, hi, rfl⟩ := List.getElem_of_mem ha
      have := Re.size_get (xs := xs) (i := i) (a := xs[i]) (by simp)
      omega)
    have HAL := hid hall
    have HBW := hid hbw
    have hal := (Below.refl w.heap.size w).alloc (Nat.le_refl _) (.cells #[.int .i64 p.op, .int .u64 p.set.a, .int .u64 p.set.b, .int .u64 p.set.c, .int .u64 p.set.d, .int .i64 p.lo, .int .i64 p.hi, .int .i64 p.gr, .slice ad xs.length cap] 53)
    have HBA := hid (hB.below hal)
    have HBWA := hid (hbw.trans (hal.mono hbw.size))
    have HFA := hid (FrB.of_below (BB := BB) (go := go) hal)
    have HOG : Hid (∀ g, go = some g → wb.heap.size ≤ g) := fun g hg => by have := (hB.own g hg).1; omega
    have hBB := hB.lt
    have hL := hB.len
    have HRE := hid (Row.new (w := w) (B := w.heap.size) (cs := [.int .i64 p.op, .int .u64 p.set.a, .int .u64 p.set.b, .int .u64 p.set.c, .int .u64 p.set.d, .int .i64 p.lo, .int .i64 p.hi, .int .i64 p.gr, .slice ad xs.length cap]) (T := 53) rfl)
    have q0 := HRE.out.c9
    obtain ⟨a1, c1, hrow⟩ := hB.row
    have q1 := hrow.c2
    have HF4 := hid hf4
    have HF5 := hid hf5
    have HFU := hid hfull
    clear ih hf4 hf5 hfs hall hbw hB hal hrow hfull hwf hnil
    simp only [Pay.cells]
    cases ov with
    | true =>
      have hL' : Hid (L.length = 4096) := HFU.out rfl
      go_enter Tryd.func32, Tryd.ntmps32
      go_wp2_with fail
      go_end0
      exact ⟨L, true, rfl, ⟨Nat.le_refl _, fun _ => hL'.out, fun _ => ⟨rfl, rfl⟩, fun e => (by cases e), fun e => (by cases e)⟩, go, HBA.out, .inl rfl, HFA.out⟩
    | false =>
      clear HFU
      by_cases o2 : p.op = 2
      · have HO := hid o2
        have d2 : (p.op == 2) = true := by simp [o2]
        clear o2
        have HAD := hid (add_any BB ⟨1, p.set, 0, 0⟩ L false _ go HBA.out)
        go_enter Tryd.func32, Tryd.ntmps32
        go_wp2_with fail
        refine HAD.out.mono ?_
        unfold BPost
        rintro e w2 ⟨rfl, go2, hb2, hg2, hf2⟩
        have HB2 := hid hb2
        have HG2 : Hid (GoTo w go go2) := FrB.go0 hg2
        have HF2 : Hid (FrB BB go w w2) := HFA.out.trans (.inl rfl) hf2
        have HST := hid (StR.add (L := L) (ov := false) (⟨1, p.set, 0, 0⟩) (fun e => (by cases e)) hL)
        clear hb2 hg2 hf2 HAD q0 q1
        go_wp2_with fail
        go_end0
        refine ⟨_, _, rfl, ?_, go2, HB2.out, HG2.out, HF2.out⟩
        have e1 : (Re.mk p xs).csize = 1 := by rw [Re.csize, if_pos (by have := HO.out; omega)]
        have e2 : (Re.mk p xs).gen = fun _ => [⟨1, p.set, 0, 0⟩] := by funext n; rw [Re.gen]; have := HO.out; simp [this]
        rw [e1, e2]
        exact HST.out
      by_cases o7 : p.op = 7
      · have HO := hid o7
        have d2 : (p.op == 2) = false := by simp [o7]
        have d7 : (p.op == 7) = true := by simp [o7]
        clear o2 o7
        have HAD := hid (addLit_any BB 4 0 0 L false _ go HBA.out)
        go_enter Tryd.func32, Tryd.ntmps32
        go_wp2_with fail
        refine HAD.out.mono ?_
        unfold BPost
        rintro e w2 ⟨rfl, go2, hb2, hg2, hf2⟩
        have HB2 := hid hb2
        have HG2 : Hid (GoTo w go go2) := FrB.go0 hg2
        have HF2 : Hid (FrB BB go w w2) := HFA.out.trans (.inl rfl) hf2
        have HST := hid (StR.add (L := L) (ov := false) (Inst.of 4) (fun e => (by cases e)) hL)
        clear hb2 hg2 hf2 HAD q0 q1
        go_wp2_with fail
        go_end0
        refine ⟨_, _, rfl, ?_, go2, HB2.out, HG2.out, HF2.out⟩
        have e1 : (Re.mk p xs).csize = 1 := by rw [Re.csize, if_pos (by have := HO.out; omega)]
        have e2 : (Re.mk p xs).gen = fun _ => [Inst.of 4] := by funext n; rw [Re.gen]; have := HO.out; simp [this]
        rw [e1, e2]
        exact HST.out
      by_cases o8 : p.op = 8
      · have HO := hid o8
        have d2 : (p.op == 2) = false := by simp [o8]
        have d7 : (p.op == 7) = false := by simp [o8]
        have d8 : (p.op == 8) = true := by simp [o8]
        clear o2 o7 o8
        have HAD := hid (addLit_any BB 5 0 0 L false _ go HBA.out)
        go_enter Tryd.func32, Tryd.ntmps32
        go_wp2_with fail
        refine HAD.out.mono ?_
        unfold BPost
        rintro e w2 ⟨rfl, go2, hb2, hg2, hf2⟩
        have HB2 := hid hb2
        have HG2 : Hid (GoTo w go go2) := FrB.go0 hg2
        have HF2 : Hid (FrB BB go w w2) := HFA.out.trans (.inl rfl) hf2
        have HST := hid (StR.add (L := L) (ov := false) (Inst.of 5) (fun e => (by cases e)) hL)
        clear hb2 hg2 hf2 HAD q0 q1
        go_wp2_with fail
        go_end0
        refine ⟨_, _, rfl, ?_, go2, HB2.out, HG2.out, HF2.out⟩
        have e1 : (Re.mk p xs).csize = 1 := by rw [Re.csize, if_pos (by have := HO.out; omega)]
        have e2 : (Re.mk p xs).gen = fun _ => [Inst.of 5] := by funext n; rw [Re.gen]; have := HO.out; simp [this]
        rw [e1, e2]
        exact HST.out
      by_cases o4 : p.op = 4
      · have HO := hid o4
        have d2 : (p.op == 2) = false := by simp [o4]
        have d7 : (p.op == 7) = false := by simp [o4]
        have d8 : (p.op == 8) = false := by simp [o4]
        have d4 : (p.op == 4) = true := by simp [o4]
        clear o2 o7 o8 o4
        have HAD := hid (balt_any BB hwb xs ad cap _ go L HBWA.out HBA.out HAL.out (by omega) (HF4.out HO.out) (fun k hk w cs go L ov h1 h2 h3 h4 => HIH.out xs[k] (by simp) w cs go L ov h1 h2 h3 h4))
        go_enter Tryd.func32, Tryd.ntmps32
        go_wp2_with fail
        refine HAD.out.mono ?_
        unfold TPost BPost
        rintro e w2 ⟨L2, o2, rfl, hs2, go2, hb2, hg2, hf2⟩
        have HB2 := hid hb2
        have HG2 : Hid (GoTo w go go2) := FrB.go0 hg2
        have HF2 : Hid (FrB BB go w w2) := HFA.out.trans (.inl rfl) hf2
        have HS2 := hid hs2
        clear hb2 hg2 hf2 hs2 HAD q0 q1
        go_wp2_with fail
        go_end0
        refine ⟨_, _, rfl, ?_, go2, HB2.out, HG2.out, HF2.out⟩
        have ho := HO.out
        have e1 : (Re.mk p xs).csize = Re.asize xs := by rw [Re.csize, if_neg (by omega), if_pos HO.out]
        have e2 : (Re.mk p xs).gen = fun n => Re.galt xs n (n + Re.asize xs) := by funext n; rw [Re.gen, if_neg (by omega), if_neg (by omega), if_neg (by omega), if_pos HO.out]
        rw [e1, e2]
        exact HS2.out
      by_cases o5 : p.op = 5
      · obtain ⟨x0, rfl⟩ : ∃ x0, xs = [x0] := List.length_eq_one_iff.1 (HF5.out o5)
        have HO := hid o5
        have d2 : (p.op == 2) = false := by simp [o5]
        have d7 : (p.op == 7) = false := by simp [o5]
        have d8 : (p.op == 8) = false := by simp [o5]
        have d4 : (p.op == 4) = false := by simp [o5]
        have d5 : (p.op == 5) = true := by simp [o5]
        clear o2 o7 o8 o4 o5
        have HAD := hid (brepeat_any BB hwb p HO.out x0 ad cap _ go L HBWA.out HBA.out HAL.out (fun w cs go L ov h1 h2 h3 h4 => HIH.out x0 (by simp) w cs go L ov h1 h2 h3 h4))
        go_enter Tryd.func32, Tryd.ntmps32
        go_wp2_with fail
        refine HAD.out.mono ?_
        unfold TPost BPost
        rintro e w2 ⟨L2, o2, rfl, hs2, go2, hb2, hg2, hf2⟩
        have HB2 := hid hb2
        have HG2 : Hid (GoTo w go go2) := FrB.go0 hg2
        have HF2 : Hid (FrB BB go w w2) := HFA.out.trans (.inl rfl) hf2
        have HS2 := hid hs2
        clear hb2 hg2 hf2 hs2 HAD q0 q1
        go_wp2_with fail
        go_end0
        refine ⟨_, _, rfl, ?_, go2, HB2.out, HG2.out, HF2.out⟩
        exact HS2.out
      have HO : Hid (¬ (p.op = 2 ∨ p.op = 7 ∨ p.op = 8) ∧ p.op ≠ 2 ∧ p.op ≠ 7 ∧ p.op ≠ 8 ∧ p.op ≠ 4 ∧ p.op ≠ 5) := ⟨by omega, o2, o7, o8, o4, o5⟩
      have d2 : (p.op == 2) = false := by simp [o2]
      have d7 : (p.op == 7) = false := by simp [o7]
      have d8 : (p.op == 8) = false := by simp [o8]
      have d4 : (p.op == 4) = false := by simp [o4]
      have d5 : (p.op == 5) = false := by simp [o5]
      have HL0 := hid (StR.none (L := L) (ov := false) (fun e => (by cases e)) hL)
      clear o2 o7 o8 o4 o5 HF4 HF5
      go_enter Tryd.func32, Tryd.ntmps32
      go_wp2_with fail
      clear HBWA q0 q1
      go_loopw [15] (fun v wr => ∃ (k : Nat) (go' : Option Nat) (L' : List Inst) (ov' : Bool), k ≤ xs.length ∧ v = .int .i64 k ∧ Hid (StR (Re.csizes (xs.take k)) (Re.gens (xs.take k)) L false L' ov') ∧ Hid (BldAt wr BB go' L' ov' ∧ GoTo w go go' ∧ FrB BB go w wr)) (fun v _ => xs.length - (intOf v).toNat)
      case atStart => exact ⟨0, go, L, false, by omega, rfl, HL0.out, HBA.out, .inl rfl, HFA.out⟩
      case round =>
        obtain ⟨k, go', L', ov', hk, rfl, HS, HX⟩ := hrel
        rcases Nat.lt_or_ge k xs.length with hlt | hge
        · have HBR : Hid (Below wb.heap.size wb wr) := HBW.out.trans (HX.out.2.2.below HBW.out.size hwb HOG.out)
          obtain ⟨b, o, p', ad', n', cap', rfl, HC, HI0, hbb⟩ := HAL.out.kid HBR.out k hlt
          have hal := (Below.refl wr.heap.size wr).alloc (Nat.le_refl _) (.cells #[.int .i64 p'.op, .int .u64 p'.set.a, .int .u64 p'.set.b, .int .u64 p'.set.c, .int .u64 p'.set.d, .int .i64 p'.lo, .int .i64 p'.hi, .int .i64 p'.gr, .slice ad' n' cap'] 53)
          have HBA1 := hid (HX.out.1.below hal)
          have HBR1 := hid (HBR.out.trans (hal.mono HBR.out.size))
          have HF1 : Hid (FrB BB go w (wr.alloc (.cells #[.int .i64 p'.op, .int .u64 p'.set.a, .int .u64 p'.set.b, .int .u64 p'.set.c, .int .u64 p'.set.d, .int .i64 p'.lo, .int .i64 p'.hi, .int .i64 p'.gr, .slice ad' n' cap'] 53))) := HX.out.2.2.trans HX.out.2.1 (FrB.of_below hal)
          have HTC := hid (HIH.out xs[k] (by simp) _ _ go' L' ov' HI0.out HBR1.out HBA1.out HS.out.full)
          have hsz2 : w.heap.size ≤ wr.heap.size := HX.out.2.2.size
          clear hal
          go_wp2_with (first | (with_reducible (refine wpList_load_agg rfl 53 _ rfl b (o + (k * 9)) rfl _ _ HC.out Tryd.underlying53 rfl (size_re9 _ _ _ _ _ _ _ _ _) ?_)))
          refine HTC.out.mono ?_
          unfold TPost BPost
          rintro e w2 ⟨L2, o2, rfl, hs2, go2, hb2, hg2, hf2⟩
          have HB2 := hid hb2
          have HG2 : Hid (GoTo w go go2) := HX.out.2.1.trans (by simp; omega) hg2
          have HF2 : Hid (FrB BB go w w2) := HF1.out.trans HX.out.2.1 hf2
          have HS2 := hid (HS.out.kids hlt hs2)
          clear hb2 hg2 hf2 hs2 HTC HC HI0 HBA1 HBR1
          go_wp2_with fail
          go_roundw
          case rel => exact ⟨k + 1, go2, L2, o2, by omega, by go_num, HS2.out, HB2.out, HG2.out, HF2.out⟩
          case measure => simp [intOf]; omega
        · obtain rfl : k = xs.length := by omega
          go_wp2_with fail
          go_end0
          refine ⟨_, _, rfl, ?_, go', HX.out.1, HX.out.2.1, HX.out.2.2⟩
          have hs := HS.out
          rw [List.take_length] at hs
          have ho := HO.out
          have e1 : (Re.mk p xs).csize = Re.csizes xs := by rw [Re.csize, if_neg (by omega), if_neg (by omega), if_neg (by omega)]
          have e2 : (Re.mk p xs).gen = Re.gens xs := by funext n; rw [Re.gen, if_neg (by omega), if_neg (by omega), if_neg (by omega), if_neg (by omega), if_neg (by omega)]
          rw [e1, e2]
          exact hs
end Go.Proofs.YtjjhdddlbgdkeaaDoor

/- The program's alt of two facts. -/
namespace Go.Proofs.YtjjhdddlbgdkeaaDoor
open Go.RowKit
attribute [local go_sem] gives givesUpon

-- def FA := .agg #[.bool a.null, .int .i64 a.least, .int .i64 a.most, .int .u64 a.first.a, .int .u64 a.first.b, .int .u64 a.first.c, .int .u64 a.first.d]
-- def FB := .agg #[.bool b.null, .int .i64 b.least, .int .i64 b.most, .int .u64 b.first.a, .int .u64 b.first.b, .int .u64 b.first.c, .int .u64 b.first.d]
-- def CA := [.bool a.null, .int .i64 a.least, .int .i64 a.most, .int .u64 a.first.a, .int .u64 a.first.b, .int .u64 a.first.c, .int .u64 a.first.d]
-- def CB := [.bool b.null, .int .i64 b.least, .int .i64 b.most, .int .u64 b.first.a, .int .u64 b.first.b, .int .u64 b.first.c, .int .u64 b.first.d]
-- def C0 := [.bool false, .int .i64 0, .int .i64 0, .int .u64 0, .int .u64 0, .int .u64 0, .int .u64 0]

end Go.Proofs.YtjjhdddlbgdkeaaDoor

/- Equality of sets, and the fields that a node may have. -/
namespace Go.Proofs.YtjjhdddlbgdkeaaDoor
open Go.RowKit

theorem info_u64 : (Tryd.prog.info? 30).map (fun i => (i.zero, i.size, i.bytes)) = some (some (.int .u64 0), 1, 8) := by kernel_rfl
theorem run_eqIn_cs (a b c d a' b' c' d' : Nat) (w : World) : (Op.equalIn 10000 33 (.agg #[.int .u64 a, .int .u64 b, .int .u64 c, .int .u64 d]) (.agg #[.int .u64 a', .int .u64 b', .int .u64 c', .int .u64 d'])).run Tryd.prog w = .ok (decide ((⟨a, b, c, d⟩ : Cs) = ⟨a', b', c', d'⟩)) w := by
  have hf : (Tryd.prog.fieldsOf 33).toList = [{ name := "Bits", type := 31, offset := 0, embedded := false, tag := "", pkgPath := "", byteOffset := 0 }] := by kernel_rfl
  obtain ⟨i, hi, _, _, _⟩ := info_parts info_u64
  have hc : Tryd.prog.cellsOf 30 = 1 := by kernel_rfl
  have key : decide ((⟨a, b, c, d⟩ : Cs) = ⟨a', b', c', d'⟩) = (((a : Int) == a') && ((b : Int) == b') && ((c : Int) == c') && ((d : Int) == d')) := by
    rw [Bool.eq_iff_iff]
    simp [and_assoc]
    omega
  rw [key, run_equalIn_agg _ 9999 33 _ _ (by kernel_rfl) (by kernel_rfl), hf]
  simp [Op.eqFields, go_sem]
  rw [run_equalIn_array _ 9998 _ _ Tryd.underlying31 hi, hc]
  simp [Op.eqItems, List.range_succ, go_sem]
  by_cases h1 : (a : Int) = a' <;> by_cases h2 : (b : Int) = b' <;> by_cases h3 : (c : Int) = c' <;> by_cases h4 : (d : Int) = d' <;> simp [h1, h2, h3, h4]

/-- Has a node with n arguments the fields of its operator? -/
def Pay.shaped (p : Pay) (n : Nat) : Bool :=
  if p.op = 1 ∨ p.op = 7 ∨ p.op = 8 then decide (n = 0) && (decide (p.lo = 0) && decide (p.hi = 0)) && decide (p.gr = 0) && decide (p.set = Cs.none)
  else if p.op = 2 then decide (n = 0) && (decide (p.lo = 0) && decide (p.hi = 0)) && decide (p.gr = 0) && !decide (p.set = Cs.none)
  else if p.op = 3 ∨ p.op = 4 then decide (2 ≤ n) && (decide (p.lo = 0) && decide (p.hi = 0)) && decide (p.gr = 0) && decide (p.set = Cs.none)
  else if p.op = 5 then decide (n = 1) && decide (p.gr = 0) && decide (p.set = Cs.none)
  else if p.op = 6 then decide (n = 1) && (decide (p.lo = 0) && decide (p.hi = 0)) && decide (p.set = Cs.none)
  else if p.op = 9 then decide (n = 0) && (decide (p.lo = 0) && decide (p.hi = 0)) && decide (p.set = Cs.none)
  else false

theorem eq_none (p : Pay) (w : World) : (Op.equalIn 10000 33 (.agg #[.int .u64 p.set.a, .int .u64 p.set.b, .int .u64 p.set.c, .int .u64 p.set.d]) (.agg #[.int .u64 0, .int .u64 0, .int .u64 0, .int .u64 0])).run Tryd.prog w = .ok (decide (p.set = Cs.none)) w :=
  run_eqIn_cs p.set.a p.set.b p.set.c p.set.d 0 0 0 0 w


end Go.Proofs.YtjjhdddlbgdkeaaDoor
