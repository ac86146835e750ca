/- The program of layer 9: parses of every tree. -/
import Derived.Test.YtkinnfejgpnddaaDoorK11
import Derived.Test.YtkinnfejgpnddaaDoorK15
import Derived.Test.YtkinnfejgpnddaaDoorK16
import Derived.Test.YtkinnfejgpnddaaDoorK17
import Derived.Defers
import Derived.Recover
import Derived.Test.YtkinnfejgpnddaaDoorK03
import Derived.Deep.Upon
import Derived.ArgAppend
namespace Go.Proofs.YtkinnfejgpnddaaDoor
open Go.RowKit
attribute [local go_sem] gives givesUpon

set_option maxRecDepth 100000 in
set_option maxHeartbeats 32000000 in
theorem ppar5 (wb : World) (N : Nat) (hN : N ≤ 9) (s : ByteArray) (hs : s.size ≤ 1000000) (lines : Bool) (p : Pay) (x0 : Re) (hop : p.op = 5) (hlo : 0 ≤ p.lo ∧ p.lo ≤ 1000) (hhi : -1 ≤ p.hi ∧ p.hi ≤ 1000) (htb : Tabs9 wb) (HX0 : PPar wb N s lines x0) : PPar wb N s lines (.mk p [x0]) := by
  intro w cs M sa sc sp i hIn hok hsz hbw hM hsp hspo hi ht
  have hIn2 := hIn
  rw [Re.In] at hIn
  obtain ⟨ad, cap, rfl, hwf, -, -, -, hall⟩ := hIn
  obtain ⟨bb, o, cs0, hq1, hq2, hq3⟩ := hall.get 0 x0 (by simp)
  subst hq1
  simp only [Pay.cells] at hIn2 ⊢
  have hP : PAt w M s lines [.int .i64 p.op, .int .u64 p.set.a, .int .u64 p.set.b, .int .u64 p.set.c, .int .u64 p.set.d, .int .i64 p.lo, .int .i64 p.hi, .int .i64 p.gr, .slice (some ⟨bb, o, none⟩) 1 cap] (.int .i64 i) (.slice sa sp.length sc) (((w.alloc (.cells #[.int .i64 p.op, .int .u64 p.set.a, .int .u64 p.set.b, .int .u64 p.set.c, .int .u64 p.set.d, .int .i64 p.lo, .int .i64 p.hi, .int .i64 p.gr, .slice (some ⟨bb, o, none⟩) 1 cap] 28)).alloc (.cells #[.int .i64 i, .slice sa sp.length sc] 48)).alloc (.cells #[.slice none 0 0] 33)) := ⟨((Row.new rfl).alloc _).alloc _, (Row.new (by simp)).alloc _, ((hM.alloc _).alloc _).alloc _, (((Below.refl _ _).alloc (Nat.le_refl _) _).alloc (by simp) _).alloc (by simp; omega) _⟩
  have hO : OutV (w.heap.size + 2) (.slice none 0 0) [] (((w.alloc (.cells #[.int .i64 p.op, .int .u64 p.set.a, .int .u64 p.set.b, .int .u64 p.set.c, .int .u64 p.set.d, .int .i64 p.lo, .int .i64 p.hi, .int .i64 p.gr, .slice (some ⟨bb, o, none⟩) 1 cap] 28)).alloc (.cells #[.int .i64 i, .slice sa sp.length sc] 48)).alloc (.cells #[.slice none 0 0] 33)) := ⟨Row.new (by simp), OwnP.nil _ _⟩
  have q0 := hP.1.c9
  have HCB : Hid (CatB w M s lines [.int .i64 p.op, .int .u64 p.set.a, .int .u64 p.set.b, .int .u64 p.set.c, .int .u64 p.set.d, .int .i64 p.lo, .int .i64 p.hi, .int .i64 p.gr, .slice (some ⟨bb, o, none⟩) 1 cap] (.int .i64 i) (.slice sa sp.length sc) [] none 0 0 (((w.alloc (.cells #[.int .i64 p.op, .int .u64 p.set.a, .int .u64 p.set.b, .int .u64 p.set.c, .int .u64 p.set.d, .int .i64 p.lo, .int .i64 p.hi, .int .i64 p.gr, .slice (some ⟨bb, o, none⟩) 1 cap] 28)).alloc (.cells #[.int .i64 i, .slice sa sp.length sc] 48)).alloc (.cells #[.slice none 0 0] 33))) := ⟨hP, hO.1, .inl ⟨rfl, rfl⟩, rfl⟩
  have HCB' : ∀ z, Below (((w.alloc (.cells #[.int .i64 p.op, .int .u64 p.set.a, .int .u64 p.set.b, .int .u64 p.set.c, .int .u64 p.set.d, .int .i64 p.lo, .int .i64 p.hi, .int .i64 p.gr, .slice (some ⟨bb, o, none⟩) 1 cap] 28)).alloc (.cells #[.int .i64 i, .slice sa sp.length sc] 48)).alloc (.cells #[.slice none 0 0] 33)).heap.size (((w.alloc (.cells #[.int .i64 p.op, .int .u64 p.set.a, .int .u64 p.set.b, .int .u64 p.set.c, .int .u64 p.set.d, .int .i64 p.lo, .int .i64 p.hi, .int .i64 p.gr, .slice (some ⟨bb, o, none⟩) 1 cap] 28)).alloc (.cells #[.int .i64 i, .slice sa sp.length sc] 48)).alloc (.cells #[.slice none 0 0] 33)) z → CatB w M s lines [.int .i64 p.op, .int .u64 p.set.a, .int .u64 p.set.b, .int .u64 p.set.c, .int .u64 p.set.d, .int .i64 p.lo, .int .i64 p.hi, .int .i64 p.gr, .slice (some ⟨bb, o, none⟩) 1 cap] (.int .i64 i) (.slice sa sp.length sc) [] none 0 0 z := fun z h => CatB.below (show CatB w M s lines [.int .i64 p.op, .int .u64 p.set.a, .int .u64 p.set.b, .int .u64 p.set.c, .int .u64 p.set.d, .int .i64 p.lo, .int .i64 p.hi, .int .i64 p.gr, .slice (some ⟨bb, o, none⟩) 1 cap] (.int .i64 i) (.slice sa sp.length sc) [] none 0 0 (((w.alloc (.cells #[.int .i64 p.op, .int .u64 p.set.a, .int .u64 p.set.b, .int .u64 p.set.c, .int .u64 p.set.d, .int .i64 p.lo, .int .i64 p.hi, .int .i64 p.gr, .slice (some ⟨bb, o, none⟩) 1 cap] 28)).alloc (.cells #[.int .i64 i, .slice sa sp.length sc] 48)).alloc (.cells #[.slice none 0 0] 33)) from HCB.out) h
  have HCW := hid HCB'
  clear HCB'
  have HT := hid ht
  have HO := hid hop
  have HMW := hid hM.lt
  have hsl : s.data.toList.length = s.size := by rw [Array.length_toList]; rfl
  have hc := prepeated_any wb N hN s hs lines p x0 bb o cap hop HX0 hIn2 hok hsz hlo hhi htb (((w.alloc (.cells #[.int .i64 p.op, .int .u64 p.set.a, .int .u64 p.set.b, .int .u64 p.set.c, .int .u64 p.set.d, .int .i64 p.lo, .int .i64 p.hi, .int .i64 p.gr, .slice (some ⟨bb, o, none⟩) 1 cap] 28)).alloc (.cells #[.int .i64 i, .slice sa sp.length sc] 48)).alloc (.cells #[.slice none 0 0] 33)) M sa sc sp i (hbw.trans (hP.2.2.2.mono hbw.size)) hP.2.2.1 (hsp.below hP.2.2.2) hspo hi
  have hPA : parses s.data.toList lines (.mk p [x0]) i sp = (visit p (withinAll [x0]) (firstP s.data.toList lines [x0]) 4097 (0, i, sp) ([], [])).bind fun st => fin s.size st.2 := by rw [parses_rep hop, hsl]; rfl
  obtain ⟨r, hr⟩ : ∃ r, r = visit p (withinAll [x0]) (firstP s.data.toList lines [x0]) 4097 (0, i, sp) ([], []) := ⟨_, rfl⟩
  rw [← hr] at hc hPA
  have HCC := hid hc
  have HPA := hid hPA
  clear hP hO hok hsz hbw hM hsp hspo ht hop hsl HX0 hq2 hq3 hIn2 hc hPA hr hall hwf htb
  have e1 : (p.op == 1) = false := by rw [HO.out]; decide
  have e2 : (p.op == 2) = false := by rw [HO.out]; decide
  have e7 : (p.op == 7) = false := by rw [HO.out]; decide
  have e8 : (p.op == 8) = false := by rw [HO.out]; decide
  have e9 : (p.op == 9) = false := by rw [HO.out]; decide
  have e6 : (p.op == 6) = false := by rw [HO.out]; decide
  have e4 : (p.op == 4) = false := by rw [HO.out]; decide
  have e3 : (p.op == 3) = false := by rw [HO.out]; decide
  have e5 : (p.op == 5) = true := by rw [HO.out]; decide
  go_enter Tryd.func46, Tryd.ntmps46
  go_wp2_with fail
  refine HCC.out.mono ?_
  rintro e z ⟨hb, hres⟩
  have hCZ := HCW.out z hb
  have HBW := hid hCZ.1.2.2.2
  cases r with
  | none =>
    subst hres
    refine And.intro rfl ?_
    show ParP w _ (.panicked exh) z
    rw [HPA.out]
    exact ⟨HBW.out, rfl⟩
  | some st =>
    obtain ⟨a9, c9, rfl, hps, hst⟩ := hres
    have q5 := hCZ.2.1.cell 0
    have f5 := hCZ.2.1.free 0
    have HN := hid (hCZ.put hps rfl HMW.out)
    have HST := hid hst
    have hpu := HN.out
    have hll : st.2.length ≤ 200000 := by have h1 := hst.2.1; have h2 := hst.2.2.1; omega
    have HPA2 : Hid (fin s.size st.2 = parses s.data.toList lines (.mk p [x0]) i sp) := by show _ = _; rw [HPA.out]; rfl
    have HE := hid (pend2_any w _ _ _ st.2 N s.size _ HN.out.2.2.1 HN.out.1.2.2.2 hll hst.2.2.2 hN hs HT.out HPA2.out)
    clear hb hps hCZ hst hpu hll q0
    go_wp2_with fail
    refine HE.out.mono ?_
    rintro e z2 ⟨hb2, h2⟩
    obtain ⟨r2, hr2⟩ : ∃ r2, r2 = parses s.data.toList lines (.mk p [x0]) i sp := ⟨_, rfl⟩
    rw [← hr2] at h2
    have HR2 := hid hr2
    clear hr2
    cases r2 with
    | none =>
      subst h2
      refine ⟨rfl, ?_⟩
      rw [← HR2.out]
      exact ⟨hb2, rfl⟩
    | some l2 =>
      obtain ⟨a2, c2, rfl, h2⟩ := h2
      have HR := hid (⟨hb2, h2⟩ : _ ∧ _)
      clear hb2 h2
      go_wp2_with fail
      go_ret
      rw [← HR2.out]
      exact ⟨HR.out.1, a2, c2, rfl, HR.out.2⟩
mutual
theorem ppar_any (wb : World) (N : Nat) (hN : N ≤ 9) (s : ByteArray) (hs : s.size ≤ 1000000) (lines : Bool) (ht : Tabs9 wb) : ∀ t : Re, t.ok N → t.reps → PPar wb N s lines t
  | .mk p xs, hok, hr => by
    have hok2 := hok
    rw [Re.ok] at hok2
    rw [Re.reps] at hr
    have hx := ppar_all wb N hN s hs lines ht xs hok2.2.2.2.2 hr.2
    have hop := hok2.1.1
    have h9 : p.op = 1 ∨ p.op = 2 ∨ p.op = 3 ∨ p.op = 4 ∨ p.op = 5 ∨ p.op = 6 ∨ p.op = 7 ∨ p.op = 8 ∨ p.op = 9 := by omega
    rcases h9 with h | h | h | h | h | h | h | h | h
    · exact ppar1 wb N hN s hs lines p xs h
    · exact ppar2 wb N hN s hs lines p xs h
    · exact ppar3 wb N hN s hs lines p xs h hx
    · exact ppar4 wb N hN s hs lines p xs h hx
    · obtain ⟨x, rfl⟩ := hok2.2.2.1 (.inl h)
      exact ppar5 wb N hN s hs lines p x h (hr.1 h).1 (hr.1 h).2 ht (hx x (by simp))
    · obtain ⟨x, rfl⟩ := hok2.2.2.1 (.inr h)
      exact ppar6 wb N hN s hs lines p x h (hx x (by simp))
    · exact ppar7 wb N hN s hs lines p xs h
    · exact ppar8 wb N hN s hs lines p xs h
    · exact ppar9 wb N hN s hs lines p xs h
theorem ppar_all (wb : World) (N : Nat) (hN : N ≤ 9) (s : ByteArray) (hs : s.size ≤ 1000000) (lines : Bool) (ht : Tabs9 wb) : ∀ xs : List Re, Re.oks N xs → Re.repsAll xs → ∀ x, x ∈ xs → PPar wb N s lines x
  | [], _, _, x, hx => by cases hx
  | t :: ts, hok, hr, x, hx => by
    rw [Re.oks] at hok
    rw [Re.repsAll] at hr
    rcases List.mem_cons.1 hx with h | h
    · rw [h]; exact ppar_any wb N hN s hs lines ht t hok.1 hr.1
    · exact ppar_all wb N hN s hs lines ht ts hok.2 hr.2 x h
end
end Go.Proofs.YtkinnfejgpnddaaDoor

/- The program of layer 9: all parses, and whether they could be had. -/
namespace Go.Proofs.YtkinnfejgpnddaaDoor
open Go.RowKit
attribute [local go_sem] gives givesUpon

theorem pcatch_idle (p q : Addr) (w : World) :
    CallsD Tryd.prog 44 #[.pointer (some p), .pointer (some q)] .returning w fun e u' w' => e = .returned (.tuple #[]) ∧ u' = .returning ∧ w' = w := by
  refine callsD_of_wpS Tryd.func44 rfl fun c₀ cs hu => ?_
  apply wpS_seq
  apply wpS_region
  simp [wpOpsS, go_sem, recoverD, hu, Tryd.ntmps44, Exit.thenS]
  have e : (#[Value.pointer (some p), Value.pointer (some q)] ++ ((Array.replicate 14 undef).setIfInBounds 3 (Value.nilIface)).setIfInBounds 0 (Value.nilIface)) = #[.pointer (some p), .pointer (some q), Value.nilIface, undef, undef, Value.nilIface, undef, undef, undef, undef, undef, undef, undef, undef, undef, undef] := rfl
  rw [e]
  refine wpS_of_wp ?_
  go_wp2_with fail
  cases c₀
  simp_all [bodyPostS, results, Tryd.results44]
set_option maxRecDepth 100000 in
set_option maxHeartbeats 4000000 in
theorem pcatch_panic (PB QB : Nat) (v0 v1 : Value) (w : World) (hp : Row w PB [v0] 33) (hq : Row w QB [v1] 4) :
    CallsD Tryd.prog 44 #[.pointer (some ⟨PB, 0, none⟩), .pointer (some ⟨QB, 0, none⟩)] (.panicking exh) w fun e u' w' => e = .returned (.tuple #[]) ∧ u' = .panicking [{ v := exhV, recovered := true }] ∧ w' = ((w.alloc (.cells #[] 81)).setCell ⟨PB, 0, none⟩ (.slice none 0 0)).setCell ⟨QB, 0, none⟩ (.bool false) := by
  unfold exh exhV
  refine callsD_of_wpS Tryd.func44 rfl fun c₀ cs hu => ?_
  apply wpS_seq
  apply wpS_region
  simp [wpOpsS, go_sem, recoverD, hu, Tryd.ntmps44, Exit.thenS]
  have e : (#[Value.pointer (some ⟨PB, 0, none⟩), Value.pointer (some ⟨QB, 0, none⟩)] ++ ((Array.replicate 14 undef).setIfInBounds 3 (Value.iface 81 (Value.agg #[]))).setIfInBounds 0 (Value.iface 81 (Value.agg #[]))) = #[.pointer (some ⟨PB, 0, none⟩), .pointer (some ⟨QB, 0, none⟩), Value.iface 81 (Value.agg #[]), undef, undef, Value.iface 81 (Value.agg #[]), undef, undef, undef, undef, undef, undef, undef, undef, undef, undef] := rfl
  rw [e]
  clear e
  have hta : ∀ w : World, (Instr.typeAssert (.iface 81 (.agg #[])) 20 81 true).run Tryd.prog w = .ok (.tuple #[.agg #[], .bool true]) w := fun _ => by kernel_rfl
  have hp1 := hp.alloc (.cells #[] 81)
  have hq1 := hq.alloc (.cells #[] 81)
  have hne : PB ≠ QB := fun e => by subst e; exact absurd (hp.typed hq) (by decide)
  have hne2 : QB ≠ PB := fun e => hne e.symm
  have c0 := hp1.cell 0
  have c1 := hp1.free 0
  have c2 := hq1.cell 0
  have c3 := hq1.free 0
  have c4 := (hq1.other hne2 0 (.slice none 0 0)).cell 0
  have c5 := (hq1.other hne2 0 (.slice none 0 0)).free 0
  have hcs : c₀.mode = .panicking [{ v := .iface 81 (.agg #[]), recovered := false }] := hu
  clear hp1 hq1 hp hq
  refine wpS_of_wp ?_
  go_wp2_with fail
  simp [bodyPostS, results, Tryd.results44]
end Go.Proofs.YtkinnfejgpnddaaDoor

/- What Parses, At and Leftmost hand out, plainly. -/
namespace Go.Proofs.YtkinnfejgpnddaaDoor
open Go.RowKit

/-- What Parses hands out. -/
def parsesR (t : Re) (s : ByteArray) (at_ : Int) (lines : Bool) : List Parse × Int :=
  if chk t s at_ ≠ 0 then ([], chk t s at_) else match parses s.data.toList lines t at_.toNat (unsetAll t.groups) with
    | none => ([], 11)
    | some l => (l, 0)
/-- What At hands out. -/
def atR (r : List Parse × Int) (at_ : Int) : Spans × Bool × Int := match r.1 with
  | [] => ([], false, r.2)
  | q :: _ => ((at_, (q.1 : Int)) :: q.2, true, 0)
/-- The loop of Leftmost. -/
def leftR (t : Re) (s : ByteArray) (lines : Bool) : Nat → Nat → Spans × Bool × Int
  | 0, _ => ([], false, 0)
  | d + 1, i => if (atR (parsesR t s i lines) i).2.1 = true ∨ (atR (parsesR t s i lines) i).2.2 ≠ 0 then atR (parsesR t s i lines) i else leftR t s lines d (i + 1)
/-- What Leftmost hands out. -/
def leftmostR (t : Re) (s : ByteArray) (from_ : Int) (lines : Bool) : Spans × Bool × Int :=
  if chk t s from_ ≠ 0 then ([], false, chk t s from_) else leftR t s lines (s.size + 1 - from_.toNat) from_.toNat
def ParsesPost (w : World) (r : List Parse × Int) (e : Ending) (w' : World) : Prop :=
  ∃ a c, e = .returned (.tuple #[.slice a r.1.length c, .int .i64 r.2]) ∧ Below w.heap.size w w' ∧ PsQ (w.heap.size ≤ ·) w' (.slice a r.1.length c) r.1
def MatchPost (w : World) (r : Spans × Bool × Int) (e : Ending) (w' : World) : Prop :=
  ∃ a c, e = .returned (.tuple #[.agg #[.slice a r.1.length c], .bool r.2.1, .int .i64 r.2.2]) ∧ Below w.heap.size w w' ∧ SpQ w' (.slice a r.1.length c) r.1
theorem unsetAll_ok (N L : Nat) : SpOk N L (unsetAll N) := ⟨by simp [unsetAll], fun x hx => .inl (List.mem_replicate.1 hx).2⟩
/-- A list of parses that Parses hands out, within bounds. -/
theorem parsesR_ok {t : Re} {s : ByteArray} {at_ : Int} {lines : Bool} : (∀ q, q ∈ (parsesR t s at_ lines).1 → POk t.groups s.size at_.toNat q) ∧ ((parsesR t s at_ lines).1 ≠ [] → chk t s at_ = 0 ∧ (parsesR t s at_ lines).2 = 0) := by
  have hsl : s.data.toList.length = s.size := by rw [Array.length_toList]; rfl
  unfold parsesR
  by_cases h : chk t s at_ ≠ 0
  · rw [if_pos h]
    exact ⟨fun q hq => (by cases hq), fun h => absurd rfl h⟩
  · rw [if_neg h]
    have h0 : chk t s at_ = 0 := Classical.byContradiction h
    obtain ⟨he, h1, h2⟩ := chk_zero h0
    cases hp : parses s.data.toList lines t at_.toNat (unsetAll t.groups) with
    | none => exact ⟨fun q hq => (by cases hq), fun h => absurd rfl h⟩
    | some l =>
      refine ⟨fun q hq => ?_, fun _ => ⟨h0, rfl⟩⟩
      have := parses_ok s.data.toList lines t.groups t at_.toNat (unsetAll t.groups) l (Re.ok_err he).1 (by rw [hsl]; omega) (by rw [hsl]; exact unsetAll_ok _ _) hp q hq
      rwa [hsl] at this
end Go.Proofs.YtkinnfejgpnddaaDoor

/- The program of layer 9: all parses of a tree, or that there are too many. -/
namespace Go.Proofs.YtkinnfejgpnddaaDoor
open Go.RowKit
attribute [local go_sem] gives givesUpon

/-- What all hands out. -/
def AllP (w : World) (r : Option (List Parse)) (e : Ending) (w' : World) : Prop :=
  Below w.heap.size w w' ∧ ∃ a c, e = .returned (.tuple #[.slice a (r.getD []).length c, .bool r.isSome]) ∧ PsQ (w.heap.size ≤ ·) w' (.slice a (r.getD []).length c) (r.getD [])
/-- The blocks of a call of all. -/
def AllA (w : World) (BXL : List Value) (x : World) : Prop := Row x w.heap.size BXL 28 ∧ Row x (w.heap.size + 1) [.slice none 0 0] 33 ∧ Row x (w.heap.size + 2) [.bool false] 4 ∧ Below w.heap.size w x
theorem AllA.later {w : World} {BXL : List Value} {x y : World} {n : Nat} (h : AllA w BXL x) (hb : Below n x y) (hn : w.heap.size + 3 ≤ n) : AllA w BXL y :=
  ⟨h.1.below hb (by omega), h.2.1.below hb (by omega), h.2.2.1.below hb (by omega), h.2.2.2.trans (hb.mono (by omega))⟩
theorem spc_rep : ∀ N : Nat, spc (unsetAll N) = List.replicate (N * 2) (.int .i64 (-1))
  | 0 => rfl
  | N + 1 => by
    rw [show (N + 1) * 2 = N * 2 + 1 + 1 by omega, List.replicate_succ, List.replicate_succ, ← spc_rep N]
    rfl
theorem spc_unset {N : Nat} {us : List Value} (hl : us.length = N * 2) (h : ∀ j, j < N * 2 → us[j]? = some (.int .i64 (-1))) : us = spc (unsetAll N) := by
  have h1 : us = List.replicate (N * 2) (.int .i64 (-1)) := List.eq_replicate_iff.2 ⟨hl, fun x hx => by
    obtain ⟨j, hj, e⟩ := List.getElem_of_mem hx
    have h9 := h j (by omega)
    rw [List.getElem?_eq_getElem hj, e] at h9
    exact Option.some.inj h9⟩
  have h2 : spc (unsetAll N) = List.replicate (N * 2) (.int .i64 (-1)) := spc_rep N
  rw [h1, h2]
set_option maxRecDepth 100000 in
set_option maxHeartbeats 32000000 in
theorem pall_any (w : World) (p : Pay) (xs : List Re) (cs : List Value) (M : Nat) (s : ByteArray) (lines : Bool) (i : Nat) (hin : (Re.mk p xs).In w cs) (hok : (Re.mk p xs).ok (Re.mk p xs).groups) (hr : (Re.mk p xs).reps) (hN : (Re.mk p xs).groups ≤ 9) (hsz : (Re.mk p xs).size ≤ 20) (hs : s.size ≤ 1000000) (hM : Row w M [.string s, .bool lines] 66) (hi : i ≤ s.size) (ht : Tabs9 w) :
    Calls Tryd.prog 32 #[.pointer (some ⟨M, 0, none⟩), .agg cs.toArray, .int .i64 i] w (AllP w (parses s.data.toList lines (.mk p xs) i (unsetAll (Re.mk p xs).groups))) := by
  have hin2 := hin
  rw [Re.In] at hin2
  obtain ⟨ad, cap, rfl, -⟩ := hin2
  simp only [Pay.cells] at hin ⊢
  have hB3 : Below w.heap.size w (((w.alloc (.cells #[.int .i64 p.op, .int .u64 p.set.a, .int .u64 p.set.b, .int .u64 p.set.c, .int .u64 p.set.d, .int .i64 p.lo, .int .i64 p.hi, .int .i64 p.gr, .slice ad xs.length cap] 28)).alloc (.cells #[.slice none 0 0] 33)).alloc (.cells #[.bool false] 4)) := (((Below.refl _ _).alloc (Nat.le_refl _) _).alloc (by simp) _).alloc (by simp; omega) _
  have hA : AllA w [.int .i64 p.op, .int .u64 p.set.a, .int .u64 p.set.b, .int .u64 p.set.c, .int .u64 p.set.d, .int .i64 p.lo, .int .i64 p.hi, .int .i64 p.gr, .slice ad xs.length cap] (((w.alloc (.cells #[.int .i64 p.op, .int .u64 p.set.a, .int .u64 p.set.b, .int .u64 p.set.c, .int .u64 p.set.d, .int .i64 p.lo, .int .i64 p.hi, .int .i64 p.gr, .slice ad xs.length cap] 28)).alloc (.cells #[.slice none 0 0] 33)).alloc (.cells #[.bool false] 4)) := ⟨((Row.new rfl).alloc _).alloc _, (Row.new (by simp)).alloc _, Row.new (by simp), hB3⟩
  have HGR := hid (Groups_any (.mk p xs) (((w.alloc (.cells #[.int .i64 p.op, .int .u64 p.set.a, .int .u64 p.set.b, .int .u64 p.set.c, .int .u64 p.set.d, .int .i64 p.lo, .int .i64 p.hi, .int .i64 p.gr, .slice ad xs.length cap] 28)).alloc (.cells #[.slice none 0 0] 33)).alloc (.cells #[.bool false] 4)) [.int .i64 p.op, .int .u64 p.set.a, .int .u64 p.set.b, .int .u64 p.set.c, .int .u64 p.set.d, .int .i64 p.lo, .int .i64 p.hi, .int .i64 p.gr, .slice ad xs.length cap] (hin.below hB3) (by omega))
  have HPP := hid (ppar_any w (Re.mk p xs).groups hN s hs lines ht (.mk p xs) hok hr)
  have HIN := hid hin
  have HOK := hid hok
  have HM := hid hM
  have HT := hid ht
  have HA := hid hA
  have HSZ := hid hsz
  have q0 := hA.1.c9
  obtain ⟨N, hNe⟩ : ∃ N, N = (Re.mk p xs).groups := ⟨_, rfl⟩
  rw [← hNe] at HGR HPP HOK hN ⊢
  have hmf : ∀ (fn : Fn) (first cap : Array Value) (w : World), (Instr.makeFunc fn first cap).run Tryd.prog w = .ok (.func fn first cap) w := fun _ _ _ _ => rfl
  obtain ⟨i0, hi0, hz0, hz1, hz2⟩ := info_parts info_span
  have hmk : ∀ y : World, (Instr.makeSlice 39 (.int .i64 (N : Int)) (.int .i64 (N : Int))).run Tryd.prog y = .ok (.slice (some ⟨y.heap.size, 0, none⟩) N N) (y.alloc (.cells (madeCells #[.int .i64 0, .int .i64 0] (N * 2)) 46)) := fun y => by
    have h := run_makeSlice (P := Tryd.prog) y 39 46 i0 _ Tryd.underlying39 hi0 hz0 .i64 .i64 N N (by omega) (by omega) (by rw [hz1]; simp; omega) (by rw [hz2]; omega) (by omega)
    rw [hz1] at h
    simpa [Value.cells] using h
  obtain ⟨zs, hzs⟩ : ∃ zs : List Value, madeCells #[.int .i64 0, .int .i64 0] (N * 2) = zs.toArray := ⟨(madeCells #[.int .i64 0, .int .i64 0] (N * 2)).toList, by simp⟩
  have hzl : zs.length = N * 2 := by
    have := size_madeCells #[.int .i64 0, .int .i64 0] (N * 2)
    rw [hzs] at this
    simpa using this
  rw [hzs] at hmk
  have HZL := hid hzl
  clear hin hok hr hM ht hA hB3 hNe hsz hzl hi0 hz0 hz1 hz2
  go_enter_defers Tryd.func32, Tryd.ntmps32
  go_wp2_with fail
  refine HGR.out.mono ?_
  rintro e z ⟨rfl, hb⟩
  have HZ := hid (HA.out.later hb (by simp))
  clear hb q0 HGR HA
  have hz3 : w.heap.size + 3 ≤ z.heap.size := by have := HZ.out.2.2.1.lt; omega
  go_wp2_with fail
  have hnew : Row (z.alloc (.cells zs.toArray 46)) z.heap.size zs 46 := Row.new rfl
  have HNW := hid hnew
  have HZ2 := hid (HZ.out.later ((Below.refl _ _).alloc (Nat.le_refl _) (.cells zs.toArray 46)) hz3)
  clear hnew
  obtain ⟨ZB, hZB⟩ : ∃ ZB, ZB = z.heap.size := ⟨_, rfl⟩
  rw [← hZB] at HNW hz3 ⊢
  clear hZB
  go_loopw [16] (fun v16 wr => ∃ (k : Nat) (us : List Value), v16 = .int .i64 k ∧ k ≤ N ∧ Hid (Row wr ZB us 46 ∧ us.length = N * 2 ∧ (∀ j, j < k * 2 → us[j]? = some (.int .i64 (-1))) ∧ AllA w [.int .i64 p.op, .int .u64 p.set.a, .int .u64 p.set.b, .int .u64 p.set.c, .int .u64 p.set.d, .int .i64 p.lo, .int .i64 p.hi, .int .i64 p.gr, .slice ad xs.length cap] wr)) (fun v16 _ => N - (intOf v16).toNat)
  case atStart => exact ⟨0, zs, rfl, Nat.zero_le _, HNW.out, HZL.out, fun j hj => by omega, HZ2.out⟩
  case round =>
    obtain ⟨k, us, rfl, hk, HX⟩ := hrel
    have HT2 := hid (HT.out.on HX.out.2.2.2.2.2.2)
    by_cases hlt : k < N
    · have hltI : (k : Int) < (N : Int) := by omega
      have hl1 : k * 2 < us.length := by have := HX.out.2.1; omega
      have hl2 : k * 2 + 1 < us.length := by have := HX.out.2.1; omega
      have q0 := HT2.out.none0
      have q1 := HT2.out.none1
      have q2 := (HX.out.1.cell (k * 2)).trans (List.getElem?_eq_getElem hl1)
      have q3 := (HX.out.1.cell (k * 2 + 1)).trans (List.getElem?_eq_getElem hl2)
      have f0 := HX.out.1.free (k * 2)
      have f1 := HX.out.1.free (k * 2 + 1)
      generalize us[k * 2] = o0 at q2
      generalize us[k * 2 + 1] = o1 at q3
      have HN : Hid (Row ((wr.setCell ⟨ZB, k * 2, none⟩ (.int .i64 (-1))).setCell ⟨ZB, k * 2 + 1, none⟩ (.int .i64 (-1))) ZB ((us.set (k * 2) (.int .i64 (-1))).set (k * 2 + 1) (.int .i64 (-1))) 46 ∧ ((us.set (k * 2) (.int .i64 (-1))).set (k * 2 + 1) (.int .i64 (-1))).length = N * 2 ∧ (∀ j, j < (k + 1) * 2 → ((us.set (k * 2) (.int .i64 (-1))).set (k * 2 + 1) (.int .i64 (-1)))[j]? = some (.int .i64 (-1))) ∧ AllA w [.int .i64 p.op, .int .u64 p.set.a, .int .u64 p.set.b, .int .u64 p.set.c, .int .u64 p.set.d, .int .i64 p.lo, .int .i64 p.hi, .int .i64 p.gr, .slice ad xs.length cap] ((wr.setCell ⟨ZB, k * 2, none⟩ (.int .i64 (-1))).setCell ⟨ZB, k * 2 + 1, none⟩ (.int .i64 (-1)))) := by
        refine ⟨(HX.out.1.set (k * 2) (.int .i64 (-1))).set (k * 2 + 1) (.int .i64 (-1)), by rw [List.length_set, List.length_set]; exact HX.out.2.1, fun j hj => ?_, ?_⟩
        · by_cases e1 : j = k * 2 + 1
          · subst e1; rw [List.getElem?_set_self (by rw [List.length_set]; exact hl2)]
          · rw [List.getElem?_set_ne (Ne.symm e1)]
            by_cases e2 : j = k * 2
            · subst e2; rw [List.getElem?_set_self hl1]
            · rw [List.getElem?_set_ne (Ne.symm e2)]
              exact HX.out.2.2.1 j (by omega)
        · exact HX.out.2.2.2.later (((Below.refl ZB wr).setCell (Nat.le_refl _) _).setCell (Nat.le_refl _) _) hz3
      clear hl1 hl2 HX HT2
      go_wp2_with fail
      exact ⟨⟨k + 1, _, by rw [Int.natCast_add]; rfl, hlt, HN.out⟩, by simp [intOf]; omega⟩
    · obtain rfl : k = N := by omega
      have hltI : ¬ (k : Int) < (k : Int) := by omega
      have hul : (unsetAll k).length = k := by simp [unsetAll]
      have hsq : SpQ wr (.slice (some ⟨ZB, 0, none⟩) (unsetAll k).length k) (unsetAll k) := ⟨_, _, rfl, .inr ⟨ZB, [], rfl, by rw [List.append_nil, ← spc_unset HX.out.2.1 HX.out.2.2.1]; exact HX.out.1⟩⟩
      have hbw := HX.out.2.2.2.2.2.2
      have hcall := HPP.out wr [.int .i64 p.op, .int .u64 p.set.a, .int .u64 p.set.b, .int .u64 p.set.c, .int .u64 p.set.d, .int .i64 p.lo, .int .i64 p.hi, .int .i64 p.gr, .slice ad xs.length cap] M (some ⟨ZB, 0, none⟩) k (unsetAll k) i HIN.out HOK.out HSZ.out hbw (HM.out.below hbw HM.out.lt) hsq (unsetAll_ok k s.size) hi HT2.out
      rw [hul] at hcall
      obtain ⟨r, hr⟩ : ∃ r, r = parses s.data.toList lines (.mk p xs) i (unsetAll k) := ⟨_, rfl⟩
      rw [← hr] at hcall
      have HCALL := hid hcall
      have HRE := hid hr
      have q0 := HX.out.2.2.2.1.c9
      have HZ3 := hid HX.out.2.2.2
      clear hul hsq hbw hcall hr HX HT2
      go_wp2_with fail
      refine HCALL.out.mono ?_
      rintro e z2 ⟨hb, hres⟩
      have HZ4 := hid (HZ3.out.later hb (by have := HZ3.out.2.2.1.lt; omega))
      clear q0
      cases r with
      | none =>
        subst hres
        refine leaves_cons (f := 44) (args := #[.pointer (some ⟨w.heap.size + 1, 0, none⟩), .pointer (some ⟨w.heap.size + 2, 0, none⟩)]) (by simp) (by simp [go_sem]) ?_
        refine (pcatch_panic (w.heap.size + 1) (w.heap.size + 2) _ _ z2 HZ4.out.2.1 HZ4.out.2.2.1).mono ?_
        rintro e u' w'' ⟨rfl, rfl, rfl⟩
        have hne : w.heap.size + 2 ≠ w.heap.size + 1 := by omega
        have hal : Below w.heap.size w (z2.alloc (.cells #[] 81)) := HZ4.out.2.2.2.alloc HZ4.out.2.2.2.size _
        have r1 := (HZ4.out.2.1.alloc (.cells #[] 81)).set 0 (.slice none 0 0)
        have r2 := ((HZ4.out.2.2.1.alloc (.cells #[] 81)).other hne 0 (.slice none 0 0)).set 0 (.bool false)
        have h1 := r1.cell 0
        have h2 := r2.cell 0
        have hbb := (hal.setCell (p := ⟨w.heap.size + 1, 0, none⟩) (by simp) (.slice none 0 0)).setCell (p := ⟨w.heap.size + 2, 0, none⟩) (by simp) (.bool false)
        have hfin : AllP w none (.returned (.tuple #[.slice none 0 0, .bool false])) (((z2.alloc (.cells #[] 81)).setCell ⟨w.heap.size + 1, 0, none⟩ (.slice none 0 0)).setCell ⟨w.heap.size + 2, 0, none⟩ (.bool false)) := ⟨hbb, none, 0, rfl, .inl ⟨rfl, rfl⟩⟩
        rw [HRE.out] at hfin
        have HFIN := hid hfin
        simp only [List.set_cons_zero, List.getElem?_cons_zero] at h1 h2
        clear r1 r2 hal hbb hfin
        simp [Leaves, settle, results, Tryd.results32, go_sem, h1, h2]
        exact HFIN.out
      | some l =>
        obtain ⟨a9, c9, rfl, hps⟩ := hres
        have q0 := HZ4.out.2.1.cell 0
        have f0 := HZ4.out.2.1.free 0
        have hne : w.heap.size + 2 ≠ w.heap.size + 1 := by omega
        have q1 := HZ4.out.2.2.1.cell 0
        have f1 := HZ4.out.2.2.1.free 0
        go_wp2_with fail
        refine leaves_cons (f := 44) (args := #[.pointer (some ⟨w.heap.size + 1, 0, none⟩), .pointer (some ⟨w.heap.size + 2, 0, none⟩)]) (by simp) (by simp [go_sem]) ?_
        refine (pcatch_idle ⟨w.heap.size + 1, 0, none⟩ ⟨w.heap.size + 2, 0, none⟩ _).mono ?_
        rintro e u' w'' ⟨rfl, rfl, rfl⟩
        have r1 := HZ4.out.2.1.set 0 (.slice a9 l.length c9)
        have r2 := (HZ4.out.2.2.1.other hne 0 (.slice a9 l.length c9)).set 0 (.bool true)
        have h1 := r1.cell 0
        have h2 := r2.cell 0
        have hbb := (HZ4.out.2.2.2.setCell (p := ⟨w.heap.size + 1, 0, none⟩) (by simp) (.slice a9 l.length c9)).setCell (p := ⟨w.heap.size + 2, 0, none⟩) (by simp) (.bool true)
        have hps2 : PsQ (w.heap.size ≤ ·) ((z2.setCell ⟨w.heap.size + 1, 0, none⟩ (.slice a9 l.length c9)).setCell ⟨w.heap.size + 2, 0, none⟩ (.bool true)) (.slice a9 l.length c9) l := by
          have e1 : ∀ b cs T, Row z2 b cs T → T ≠ 33 → b ≠ w.heap.size + 1 := fun b cs T hr h e => by subst e; exact h (hr.typed HZ4.out.2.1)
          have e2 : ∀ b cs T, Row z2 b cs T → T ≠ 4 → b ≠ w.heap.size + 2 := fun b cs T hr h e => by subst e; exact h (hr.typed HZ4.out.2.2.1)
          exact hps.of (fun b cs hr => (hr.other (e1 b cs _ hr (by decide)) _ _).other (e2 b cs _ hr (by decide)) _ _) fun b cs hp hr => ⟨(hr.other (e1 b cs _ hr (by decide)) _ _).other (e2 b cs _ hr (by decide)) _ _, Nat.le_trans HZ3.out.2.2.2.size hp⟩
        have hfin : AllP w (some l) (.returned (.tuple #[.slice a9 l.length c9, .bool true])) ((z2.setCell ⟨w.heap.size + 1, 0, none⟩ (.slice a9 l.length c9)).setCell ⟨w.heap.size + 2, 0, none⟩ (.bool true)) := ⟨hbb, a9, c9, rfl, hps2⟩
        rw [HRE.out] at hfin
        have HFIN := hid hfin
        simp only [List.set_cons_zero, List.getElem?_cons_zero] at h1 h2
        clear r1 r2 hbb hfin hps2
        simp [Leaves, settle, results, Tryd.results32, go_sem, h1, h2]
        exact HFIN.out
end Go.Proofs.YtkinnfejgpnddaaDoor

/- The reference's Check of a tree: the error of the tree. -/
namespace Go.Proofs.YtkinnfejgpnddaaDoor
open Go.RowKit

theorem Re.err_some (t : Re) : t.err = if t.typed = false then 7 else if (t.ranged 0).isSome = false then 2 else if (t.named []).isSome = false then 4 else if 600 < t.size ∨ 9 < t.groups ∨ 32 < t.levels then 3 else 0 := by
  unfold Re.err
  cases t.ranged 0 <;> cases t.named [] <;> rfl

set_option maxRecDepth 100000 in
set_option maxHeartbeats 4000000 in
theorem CheckRef_any (t : Re) (w : World) (cs : List Value) (hIn : t.In w cs) (hsz : t.size ≤ 1048576) :
    Calls Tryd.prog 23 #[.agg cs.toArray] w fun e w' => e = .returned (.int .i64 t.err) ∧ Below w.heap.size w w' := by
  cases t with
  | mk p xs =>
    have hIn' := hIn
    rw [Re.In] at hIn
    obtain ⟨ad, cap, rfl, _⟩ := hIn
    simp only [Pay.cells] at hIn' ⊢
    have HI := hid hIn'
    have hgl := Re.count_le (· == 6) (.mk p xs)
    have hll := Re.levels_le (.mk p xs)
    have HGL := hid hgl
    have HLL := hid hll
    have HSZ := hid hsz
    have HER := hid (Re.err_some (.mk p xs))
    clear hIn' hgl hll
    have HB0 := hid ((Below.refl _ w).alloc (Nat.le_refl _) (.cells #[.int .i64 p.op, .int .u64 p.set.a, .int .u64 p.set.b, .int .u64 p.set.c, .int .u64 p.set.d, .int .i64 p.lo, .int .i64 p.hi, .int .i64 p.gr, .slice ad xs.length cap] 28))
    have HC1 := hid (typedRef_any (.mk p xs) _ _ (HI.out.below HB0.out) HSZ.out)
    go_enter Tryd.func23, Tryd.ntmps23
    go_wp2_with fail
    refine HC1.out.mono ?_
    rintro e w1 ⟨rfl, hb1⟩
    obtain ⟨hbx, hbl, hlt0⟩ := box_facts (w := w) (p := p) (sl := .slice ad xs.length cap) (hb1.mono (by simp))
    have q := hbx.c9
    have HB := hid hbl
    have HHX := hid hbx
    clear hb1 hbl HC1
    cases ht : (Re.mk p xs).typed
    · rw [ht] at HER
      have HT := hid ht
      clear ht hbx
      go_wp2_with fail
      go_ret
      exact ⟨ret_int (by rw [HER.out]; simp), HB.out⟩
    · rw [ht] at HER
      have HT := hid ht
      clear ht
      have HC2 := hid (rangedRef_any (.mk p xs) w1 _ 0 (HI.out.below HB.out) (by have := HSZ.out; simp only [Nat.zero_add]; omega))
      clear hbx
      go_wp2_with fail
      refine HC2.out.mono ?_
      rintro e w2 ⟨hb2, m, rfl, hm⟩
      have hbx := HHX.out.below hb2 (by omega)
      have hbl := HB.out.trans (hb2.mono (by omega))
      have hlt2 : w.heap.size < w2.heap.size := by have := hb2.size; omega
      have q2 := hbx.c9
      have HB2 := hid hbl
      have HHX2 := hid hbx
      clear hb2 hbl HC2 hm hbx q
      cases hr : ((Re.mk p xs).ranged 0).isSome
      · rw [hr] at HER
        clear hr
        go_wp2_with fail
        go_ret
        exact ⟨ret_int (by rw [HER.out]; simp), HB2.out⟩
      · rw [hr] at HER
        clear hr
        have HC3 := hid (namedRef_any w.heap.size w (Nat.le_refl _) (.mk p xs) w2 _ (.slice none 0 0) [] HI.out HB2.out (by omega) (World.ownsRow_nil _ _ _ _) (by have := HSZ.out; simp; omega))
        go_wp2_with fail
        refine HC3.out.mono ?_
        rintro e w3 ⟨hb3, a3, n3, c3, rfl, hm3⟩
        have hb3' : Below w2.heap.size w2 w3 := hb3.below (Nat.le_refl _) (fun k hk => by simp [own, Value.ownBlock] at hk)
        have hbx := HHX2.out.below hb3' (by omega)
        have hbl := HB2.out.trans (hb3'.mono (by omega))
        have hlt3 : w.heap.size < w3.heap.size := by have := hb3'.size; omega
        have q3 := hbx.c9
        have HB3 := hid hbl
        have HHX3 := hid hbx
        clear hb3 hb3' hbl HC3 hm3 hbx q2
        cases hr : ((Re.mk p xs).named []).isSome
        · rw [hr] at HER
          clear hr
          go_wp2_with fail
          go_ret
          exact ⟨ret_int (by rw [HER.out]; simp), HB3.out⟩
        · rw [hr] at HER
          clear hr
          have HC4 := hid (SizeRef_any (.mk p xs) w3 _ (HI.out.below HB3.out) HSZ.out)
          go_wp2_with fail
          refine HC4.out.mono ?_
          rintro e w4 ⟨rfl, hb4⟩
          have hbx := HHX3.out.below hb4 (by omega)
          have hbl := HB3.out.trans (hb4.mono (by omega))
          have hlt4 : w.heap.size < w4.heap.size := by have := hb4.size; omega
          have q4 := hbx.c9
          have HB4 := hid hbl
          have HHX4 := hid hbx
          clear hb4 hbl HC4 hbx q3
          have HC5 := hid (GroupsRef_any (.mk p xs) w4 _ (HI.out.below HB4.out) HSZ.out)
          by_cases h600 : 600 < (Re.mk p xs).size
          · have d600 : decide ((600 : Int) < ((Re.mk p xs).size : Int)) = true := by rw [decide_eq_true_eq]; omega
            have H600 := hid h600
            clear h600
            go_wp2_with fail
            go_ret
            exact ⟨ret_int (by rw [HER.out]; simp [H600.out]), HB4.out⟩
          · have d600 : decide ((600 : Int) < ((Re.mk p xs).size : Int)) = false := by rw [decide_eq_false_iff_not]; omega
            have H600 := hid h600
            clear h600
            go_wp2_with fail
            refine HC5.out.mono ?_
            rintro e w5 ⟨rfl, hb5⟩
            have hbx := HHX4.out.below hb5 (by omega)
            have hbl := HB4.out.trans (hb5.mono (by omega))
            have hlt5 : w.heap.size < w5.heap.size := by have := hb5.size; omega
            have q5 := hbx.c9
            have HB5 := hid hbl
            have HHX5 := hid hbx
            clear hb5 hbl HC5 hbx q4 d600
            have HC6 := hid (levelsRef_any (.mk p xs) w5 _ (HI.out.below HB5.out) HSZ.out)
            by_cases h9 : 9 < (Re.mk p xs).groups
            · have d9 : decide ((9 : Int) < ((Re.mk p xs).groups : Int)) = true := by rw [decide_eq_true_eq]; omega
              have H9 := hid h9
              clear h9
              go_wp2_with fail
              go_ret
              exact ⟨ret_int (by rw [HER.out]; simp [H9.out]), HB5.out⟩
            · have d9 : decide ((9 : Int) < ((Re.mk p xs).groups : Int)) = false := by rw [decide_eq_false_iff_not]; omega
              have H9 := hid h9
              clear h9
              go_wp2_with fail
              refine HC6.out.mono ?_
              rintro e w6 ⟨rfl, hb6⟩
              have hbl := HB5.out.trans (hb6.mono (by omega))
              have HB6 := hid hbl
              clear hb6 hbl HC6 d9
              by_cases h32 : 32 < (Re.mk p xs).levels
              · have d32 : decide ((32 : Int) < ((Re.mk p xs).levels : Int)) = true := by rw [decide_eq_true_eq]; omega
                have H32 := hid h32
                clear h32
                go_wp2_with fail
                go_ret
                exact ⟨ret_int (by rw [HER.out]; simp [H32.out]), HB6.out⟩
              · have d32 : decide ((32 : Int) < ((Re.mk p xs).levels : Int)) = false := by rw [decide_eq_false_iff_not]; omega
                have H32 := hid h32
                clear h32
                go_wp2_with fail
                go_ret
                exact ⟨ret_int (by rw [HER.out]; simp [H32.out, H9.out, H600.out]), HB6.out⟩
end Go.Proofs.YtkinnfejgpnddaaDoor

/- The reference of layer 9: Parses. -/
namespace Go.Proofs.YtkinnfejgpnddaaDoor
open Go.RowKit
attribute [local go_sem] gives givesUpon

end Go.Proofs.YtkinnfejgpnddaaDoor

/- The program of layer 9: the check of a call, and Parses. -/
namespace Go.Proofs.YtkinnfejgpnddaaDoor
open Go.RowKit
attribute [local go_sem] gives givesUpon

set_option maxRecDepth 100000 in
set_option maxHeartbeats 16000000 in
theorem pcheck_any (w : World) (t : Re) (cs : List Value) (s : ByteArray) (at_ : Int) (hin : t.In w cs) (hsz : t.size ≤ 20) (_hs : s.size ≤ 1000000) :
    Calls Tryd.prog 31 #[.agg cs.toArray, .string s, .int .i64 at_] w fun e w' => e = .returned (.int .i64 (chk t s at_)) ∧ Below w.heap.size w w' := by
  cases t with
  | mk p xs =>
  have hin2 := hin
  rw [Re.In] at hin2
  obtain ⟨ad, cap, rfl, -⟩ := hin2
  simp only [Pay.cells] at hin ⊢
  have hb1 : Below w.heap.size w (w.alloc (.cells #[.int .i64 p.op, .int .u64 p.set.a, .int .u64 p.set.b, .int .u64 p.set.c, .int .u64 p.set.d, .int .i64 p.lo, .int .i64 p.hi, .int .i64 p.gr, .slice ad xs.length cap] 28)) := (Below.refl _ _).alloc (Nat.le_refl _) _
  have HR := hid (Row.new (w := w) (cs := [.int .i64 p.op, .int .u64 p.set.a, .int .u64 p.set.b, .int .u64 p.set.c, .int .u64 p.set.d, .int .i64 p.lo, .int .i64 p.hi, .int .i64 p.gr, .slice ad xs.length cap]) (T := 28) rfl)
  have HB1 := hid hb1
  have q0 := HR.out.c9
  have HCK := hid (Check_any (.mk p xs) (w.alloc (.cells #[.int .i64 p.op, .int .u64 p.set.a, .int .u64 p.set.b, .int .u64 p.set.c, .int .u64 p.set.d, .int .i64 p.lo, .int .i64 p.hi, .int .i64 p.gr, .slice ad xs.length cap] 28)) [.int .i64 p.op, .int .u64 p.set.a, .int .u64 p.set.b, .int .u64 p.set.c, .int .u64 p.set.d, .int .i64 p.lo, .int .i64 p.hi, .int .i64 p.gr, .slice ad xs.length cap] (hin.below hb1) (by omega))
  clear hin hb1
  go_enter Tryd.func31, Tryd.ntmps31
  go_wp2_with fail
  refine HCK.out.mono ?_
  rintro e z ⟨rfl, hb⟩
  have HZ := hid (HB1.out.trans (hb.mono HB1.out.size))
  clear hb q0 HCK HR HB1
  obtain ⟨er, her⟩ : ∃ er, er = (Re.mk p xs).err := ⟨_, rfl⟩
  have HER := hid her
  rw [← her]
  clear her
  by_cases he : er = 0
  · by_cases hr : at_ < 0 ∨ (s.size : Int) < at_
    · have hc : chk (.mk p xs) s at_ = 2 := by unfold chk; rw [if_neg (by rw [← HER.out]; simp [he]), if_pos hr]
      have HPR := hid hc
      subst he
      have hr2 : at_ < 0 ∨ (¬ at_ < 0 ∧ (s.size : Int) < at_) := by omega
      clear hr hc HER
      rcases hr2 with hr | ⟨hr1, hr⟩
      all_goals
        go_wp2_with fail
        go_ret
        rw [HPR.out]
        exact ⟨rfl, HZ.out⟩
    · have hc : chk (.mk p xs) s at_ = 0 := by unfold chk; rw [if_neg (by rw [← HER.out]; simp [he]), if_neg hr]
      have HPR := hid hc
      subst he
      have hr1 : ¬ at_ < 0 := by omega
      have hr2 : ¬ (s.size : Int) < at_ := by omega
      clear hr hc HER
      go_wp2_with fail
      go_ret
      rw [HPR.out]
      exact ⟨rfl, HZ.out⟩
  · have hc : chk (.mk p xs) s at_ = er := by unfold chk; rw [if_pos (by rw [← HER.out]; exact he), HER.out]
    have HPR := hid hc
    clear hc HER
    go_wp2_with fail
    go_ret
    rw [HPR.out]
    exact ⟨rfl, HZ.out⟩
end Go.Proofs.YtkinnfejgpnddaaDoor

/- The program of layer 9: copies of spans. -/
namespace Go.Proofs.YtkinnfejgpnddaaDoor
open Go.RowKit
attribute [local go_sem] gives givesUpon

theorem spc_one9 : ∀ (sp : Spans) (u : Value), u ∈ spc sp → u.oneCell' = true := fun sp u hu => spc_one sp u hu
set_option maxRecDepth 100000 in
set_option maxHeartbeats 8000000 in
theorem pclones_any (w : World) (sa : Option Addr) (sc : Nat) (sp : Spans) (h : SpQ w (.slice sa sp.length sc) sp) (hl : sp.length ≤ 9) :
    Calls Tryd.prog 33 #[.slice sa sp.length sc] w (ClrPost w sp.length sp) := by
  cases sa with
  | none =>
    have h0 : sp = [] := by
      obtain ⟨a, c, e, h1 | ⟨b, more, h1, _⟩⟩ := h
      · exact h1
      · subst h1; injection e with e1 e2 e3; cases e1
    subst h0
    have hcmp : ∀ (x : World), Sem.run Tryd.prog (binOp .eql 39 (.slice none 0 sc) (.slice none 0 0)) x = .ok (.bool true) x := fun x => rfl
    clear h
    simp only [List.length_nil]
    go_enter Tryd.func33, Tryd.ntmps33
    go_wp2_with fail
    go_ret
    exact ⟨none, 0, rfl, Below.refl _ _, none, 0, rfl, .inl rfl⟩
  | some ad =>
    obtain ⟨i0, hi, hz0, hz1, hz2⟩ := info_parts info_span
    have hnews : ∀ j u, (spc sp)[j]? = some u → w.cell? (ad.add j) = some u := by
      intro j u hj
      obtain ⟨a, c, e, h1 | ⟨b, more, h1, hr⟩⟩ := h
      · subst h1; cases hj
      · subst h1
        injection e with e1 e2 e3
        injection e1 with e1
        subst e1
        rw [Addr.add_lit, Nat.zero_add, hr.cell j]
        exact List.getElem?_append_left (List.getElem?_eq_some_iff.1 hj).1 ▸ hj
    have hlt : sp ≠ [] → ad.block < w.heap.size := by
      intro h0
      obtain ⟨a, c, e, h1 | ⟨b, more, h1, hr⟩⟩ := h
      · exact absurd h1 h0
      · subst h1
        injection e with e1 e2 e3
        injection e1 with e1
        subst e1
        exact hr.lt
    have HNW : Hid (∀ (o : Obj) j u, (spc sp)[j]? = some u → (w.alloc o).cell? (ad.add j) = some u) := fun o j u hj => by
      have h0 : sp ≠ [] := fun e => by subst e; cases hj
      exact ((((Below.refl w.heap.size w).alloc (Nat.le_refl _) o).cell (p := ad.add j) (by have h9 := hlt h0; have h8 : (ad.add j).block = ad.block := (by unfold Addr.add; split <;> rfl); rw [h8]; exact h9))).trans (hnews j u hj)
    obtain ⟨n, hn⟩ : ∃ n, n = sp.length := ⟨_, rfl⟩
    have HN := hid hn
    rw [← hn] at hl ⊢
    have hcmp : ∀ (x : World), Sem.run Tryd.prog (binOp .eql 39 (.slice (some ad) n sc) (.slice none 0 0)) x = .ok (.bool false) x := fun x => rfl
    clear h hnews hlt hn
    go_enter Tryd.func33, Tryd.ntmps33
    go_wp2_with (at_builtin; refine wpList_append_own _ rfl _ _ 39 rfl w.heap.size 46 i0 (.agg #[.int .i64 0, .int .i64 0]) 2 16 Tryd.underlying39 hi hz0 hz1 hz2 rfl (by decide) _ 0 [] rfl ?c0 ad n sc (spc sp) rfl ?c6 ?c1 ?c2 ?c3 ?c4 ?c5 ?_)
    case c0 => exact World.ownsRow_made w #[] 0 (Nat.le_refl _) (by unfold maxLen; omega) rfl
    case c1 => exact HNW.out _
    case c2 => exact spc_one9 sp
    case c3 => unfold maxLen; omega
    case c4 => omega
    case c5 => simp
    case c6 => rw [spc_length, HN.out]
    intro v' w3 hown hgrow hnw
    have hb3 : Below w.heap.size w w3 := ((Below.refl w.heap.size w).alloc (Nat.le_refl _) _).grown hgrow (by simp) (fun g hg => by simp [Value.ownBlock] at hg; omega)
    have hres : ∃ a c, v' = .slice a n c ∧ SpQ w3 (.slice a n c) sp := by
      obtain ⟨_, h1 | ⟨g, cap, cur, hv, hg, hcur, hr⟩⟩ := hown
      · obtain ⟨e1, e2⟩ := h1
        subst e1; subst e2
        have h0 : sp = [] := List.length_eq_zero_iff.1 HN.out.symm
        exact ⟨none, 0, rfl, none, 0, by rw [h0]; rfl, .inl h0⟩
      · obtain ⟨_, _, _, h4⟩ := hr
        refine ⟨some ⟨g, 0, none⟩, cap, hv, some ⟨g, 0, none⟩, cap, by rw [HN.out], .inr ⟨g, cur.toList.drop (n * 2), rfl, ?_⟩⟩
        have e : spc sp ++ cur.toList.drop (n * 2) = cur.toList := by
          rw [← h4]
          exact List.take_append_drop _ _
        unfold Row
        rw [e]
        exact hcur
    obtain ⟨a2, c2, rfl, hsq⟩ := hres
    have HB3 := hid (⟨hb3, hsq⟩ : _ ∧ _)
    clear hown hgrow hnw hb3 hsq
    go_wp2_with fail
    go_ret
    exact ⟨a2, c2, rfl, HB3.out.1, HB3.out.2⟩
end Go.Proofs.YtkinnfejgpnddaaDoor

/- The program of layer 9: Parses. -/
namespace Go.Proofs.YtkinnfejgpnddaaDoor
open Go.RowKit
attribute [local go_sem] gives givesUpon

set_option maxRecDepth 100000 in
set_option maxHeartbeats 32000000 in
theorem PParses_any (w : World) (t : Re) (cs : List Value) (s : ByteArray) (at_ : Int) (lines : Bool) (hin : t.In w cs) (hsz : t.size ≤ 20) (hs : s.size ≤ 1000000) (ht : Tabs9 w) :
    Calls Tryd.prog 12 #[.agg cs.toArray, .string s, .int .i64 at_, .bool lines] w (ParsesPost w (parsesR t s at_ lines)) := by
  cases t with
  | mk p xs =>
  have hin2 := hin
  rw [Re.In] at hin2
  obtain ⟨ad, cap, rfl, -⟩ := hin2
  simp only [Pay.cells] at hin ⊢
  have hb1 : Below w.heap.size w (w.alloc (.cells #[.int .i64 p.op, .int .u64 p.set.a, .int .u64 p.set.b, .int .u64 p.set.c, .int .u64 p.set.d, .int .i64 p.lo, .int .i64 p.hi, .int .i64 p.gr, .slice ad xs.length cap] 28)) := (Below.refl _ _).alloc (Nat.le_refl _) _
  have HR := hid (Row.new (w := w) (cs := [.int .i64 p.op, .int .u64 p.set.a, .int .u64 p.set.b, .int .u64 p.set.c, .int .u64 p.set.d, .int .i64 p.lo, .int .i64 p.hi, .int .i64 p.gr, .slice ad xs.length cap]) (T := 28) rfl)
  have HIN := hid hin
  have HB1 := hid hb1
  have HT := hid ht
  have q0 := HR.out.c9
  have HCK := hid (pcheck_any (w.alloc (.cells #[.int .i64 p.op, .int .u64 p.set.a, .int .u64 p.set.b, .int .u64 p.set.c, .int .u64 p.set.d, .int .i64 p.lo, .int .i64 p.hi, .int .i64 p.gr, .slice ad xs.length cap] 28)) (.mk p xs) [.int .i64 p.op, .int .u64 p.set.a, .int .u64 p.set.b, .int .u64 p.set.c, .int .u64 p.set.d, .int .i64 p.lo, .int .i64 p.hi, .int .i64 p.gr, .slice ad xs.length cap] s at_ (hin.below hb1) hsz hs)
  clear hin hb1 ht
  go_enter Tryd.func12, Tryd.ntmps12
  go_wp2_with fail
  refine HCK.out.mono ?_
  rintro e z ⟨rfl, hb⟩
  have HZ := hid (⟨HR.out.below hb HR.out.lt, HB1.out.trans (hb.mono HB1.out.size)⟩ : Row z w.heap.size [.int .i64 p.op, .int .u64 p.set.a, .int .u64 p.set.b, .int .u64 p.set.c, .int .u64 p.set.d, .int .i64 p.lo, .int .i64 p.hi, .int .i64 p.gr, .slice ad xs.length cap] 28 ∧ Below w.heap.size w z)
  clear hb q0 HCK HR HB1
  obtain ⟨er, her⟩ : ∃ er, er = chk (.mk p xs) s at_ := ⟨_, rfl⟩
  have HER := hid her
  rw [← her]
  clear her
  by_cases he : er = 0
  case neg =>
    have hp : parsesR (.mk p xs) s at_ lines = ([], er) := by unfold parsesR; rw [← HER.out, if_pos he]
    have HPR := hid hp
    clear hp HER
    go_wp2_with fail
    go_ret2
    rw [HPR.out]
    exact ⟨none, 0, rfl, HZ.out.2, .inl ⟨rfl, rfl⟩⟩
  have hc : chk (.mk p xs) s at_ = 0 := by rw [← HER.out, he]
  obtain ⟨h1, h2, h3⟩ := chk_zero hc
  obtain ⟨f, rfl⟩ : ∃ f : Nat, at_ = f := ⟨at_.toNat, by omega⟩
  obtain ⟨ok, hg9, -⟩ := Re.ok_err h1
  have hrep := Re.reps_err h1
  have hf : f ≤ s.size := by omega
  have hpr : parsesR (.mk p xs) s f lines = match parses s.data.toList lines (.mk p xs) f (unsetAll (Re.mk p xs).groups) with | none => ([], 11) | some l => (l, 0) := by
    unfold parsesR; rw [if_neg (by simp [hc])]; rfl
  have hbm : Below w.heap.size w (z.alloc (.cells #[.string s, .bool lines] 66)) := HZ.out.2.alloc HZ.out.2.size _
  have hall := pall_any (z.alloc (.cells #[.string s, .bool lines] 66)) p xs [.int .i64 p.op, .int .u64 p.set.a, .int .u64 p.set.b, .int .u64 p.set.c, .int .u64 p.set.d, .int .i64 p.lo, .int .i64 p.hi, .int .i64 p.gr, .slice ad xs.length cap] z.heap.size s lines f (HIN.out.below hbm) ok hrep hg9 hsz hs (Row.new rfl) hf (HT.out.on hbm)
  have hsl : s.data.toList.length = s.size := by rw [Array.length_toList]; rfl
  have hlen := fun l (h : parses s.data.toList lines (.mk p xs) f (unsetAll (Re.mk p xs).groups) = some l) => parses_len ok (by rw [hsl]; exact hf) (by rw [hsl]; exact unsetAll_ok _ _) h
  have hpok := fun l (h : parses s.data.toList lines (.mk p xs) f (unsetAll (Re.mk p xs).groups) = some l) => parses_ok s.data.toList lines _ (.mk p xs) f _ l ok (by rw [hsl]; exact hf) (by rw [hsl]; exact unsetAll_ok _ _) h
  obtain ⟨r, hr⟩ : ∃ r, r = parses s.data.toList lines (.mk p xs) f (unsetAll (Re.mk p xs).groups) := ⟨_, rfl⟩
  rw [← hr] at hpr hall hlen hpok
  obtain ⟨N, hN⟩ : ∃ N, N = (Re.mk p xs).groups := ⟨_, rfl⟩
  rw [← hN] at hpok hg9
  have HALL := hid hall
  have HPR := hid hpr
  have HLEN := hid hlen
  have HPOK := hid hpok
  have q0 := (HZ.out.1.alloc (.cells #[.string s, .bool lines] 66)).c9
  have HBM := hid hbm
  subst he
  clear hc h1 h2 h3 ok hrep hf hpr hbm hall hsl hlen hpok hr hN HER
  go_wp2_with fail
  refine HALL.out.mono ?_
  rintro e z2 ⟨hb2, a9, c9, rfl, hps⟩
  have HB2 := hid (HBM.out.trans (hb2.mono HBM.out.size))
  clear q0 hb2
  cases r with
  | none =>
    clear hps
    simp only [Option.isSome_none, Option.getD_none, List.length_nil]
    go_wp2_with fail
    go_ret2
    rw [HPR.out]
    exact ⟨none, 0, rfl, HB2.out, .inl ⟨rfl, rfl⟩⟩
  | some l =>
    simp only [Option.isSome_some, Option.getD_some] at hps ⊢
    have hl4 := HLEN.out l rfl
    obtain ⟨n, hnn⟩ : ∃ n, n = l.length := ⟨_, rfl⟩
    have HNN := hid hnn
    rw [← hnn] at hps hl4 ⊢
    have HPS := hid hps
    obtain ⟨ZS, hZS⟩ : ∃ ZS, ZS = z2.heap.size := ⟨_, rfl⟩
    have HZS := hid hZS
    clear hps hnn hZS
    go_wp2_with fail
    go_loopw [13, 37] (fun v13 v37 wr => ∃ (j : Nat) (na : Option Addr) (nn nc : Nat), v13 = .slice na nn nc ∧ v37 = .int .i64 j ∧ j ≤ n ∧ Hid (nn = (l.take j).length ∧ OwnP wr ZS (.slice na nn nc) (l.take j) ∧ Below ZS z2 wr)) (fun _ v37 _ => n - (intOf v37).toNat)
    case atStart => exact ⟨0, none, 0, 0, rfl, rfl, Nat.zero_le _, by simp, OwnP.nil _ _, Below.refl _ _⟩
    case round =>
      obtain ⟨j, na, nn, nc, rfl, rfl, hj, HX⟩ := hrel
      have hbz : Below z2.heap.size z2 wr := by rw [← HZS.out]; exact HX.out.2.2
      have HPW := hid (HPS.out.below hbz)
      have HBZ := hid hbz
      clear hbz
      by_cases hlt : j < n
      · have hltJ : (j : Int) < (n : Int) := by omega
        obtain ⟨b, cc, u1, u2, va2, vc2, hq, ev, hbl, -, -, p0, p1, hsq⟩ := HPW.out.get (k := j) (by have := HNN.out; omega)
        injection ev with e1 e2 e3
        subst e1; subst e3
        clear e2
        have hpk := HPOK.out l rfl (u1, u2) (List.mem_of_getElem? hq)
        have hul : u2.length ≤ 9 := by have := hpk.2.2.1; dsimp only at this; omega
        have hal : Below wr.heap.size wr (wr.alloc (.cells #[.int .i64 u1, .slice va2 u2.length vc2] 48)) := (Below.refl _ _).alloc (Nat.le_refl _) _
        have HY := hid (⟨Row.new (w := wr) (cs := [.int .i64 u1, .slice va2 u2.length vc2]) (T := 48) rfl, hsq.below hal, hal⟩ : Row (wr.alloc (.cells #[.int .i64 u1, .slice va2 u2.length vc2] 48)) wr.heap.size _ _ ∧ SpQ _ _ _ ∧ _)
        have HC := hid (fun (x : World) (hx : Grow ((wr.alloc (.cells #[.int .i64 u1, .slice va2 u2.length vc2] 48))).drew x) => (HY.out.1.grow hx).two9)
        have HCL := hid (fun (x : World) (hx : Grow ((wr.alloc (.cells #[.int .i64 u1, .slice va2 u2.length vc2] 48))).drew x) => pclones_any x va2 vc2 u2 (HY.out.2.1.below (grow_below hx)) hul)
        have HQ := hid hq
        clear hq hpk hal hsq
        go_upto_region 11 with fail
        clear p0 p1
        refine wp_region_inv 8 (Grow) (by kernel_rfl) (by kernel_rfl) (Grow.refl) (fun _ _ _ => Grow.trans) ?_
        simp only [fill, dstOf, Act.put, List.take_succ_cons, List.take_zero, List.getElem?_toArray, List.getElem?_cons_zero, List.getElem?_cons_succ, Option.bind_some, List.setIfInBounds_toArray, List.set_cons_zero, List.set_cons_succ]
        refine Plan.det 1 rfl (Grow.refl) ?_
        apply Exists.intro
        refine ⟨fun vs x hR hF K hK => ?_, ?_⟩
        · clear hF
          go_simp
          exact hK _ _ (Grow.refl _) rfl
        refine Plan.det 2 rfl (Grow.refl) ?_
        apply Exists.intro
        refine ⟨fun vs x hR hF K hK => ?_, ?_⟩
        · clear hF
          go_simp
          exact hK _ _ (Grow.refl _) rfl
        refine Plan.det 3 rfl (Grow.refl) ?_
        apply Exists.intro
        refine ⟨fun vs x hR hF K hK => ?_, ?_⟩
        · have f1 := hF 0 _ _ rfl rfl; have hc := HC.out x hR; clear hF
          go_simp
          exact hK _ _ (Grow.refl _) rfl
        refine Plan.det 4 rfl (Grow.refl) ?_
        apply Exists.intro
        refine ⟨fun vs x hR hF K hK => ?_, ?_⟩
        · clear hF
          go_simp
          exact hK _ _ (Grow.refl _) rfl
        refine Plan.det 5 rfl (Grow.refl) ?_
        apply Exists.intro
        refine ⟨fun vs x hR hF K hK => ?_, ?_⟩
        · have f3 := hF 0 _ _ rfl rfl; have hc := HC.out x hR; clear hF
          go_simp
          exact hK _ _ (Grow.refl _) rfl
        refine Plan.rel 6 rfl (Grow.refl) (fun v y => ∃ (a2 : Option Addr) (c2 : Nat), v = .slice a2 u2.length c2 ∧ SpQ y (.slice a2 u2.length c2) u2) (fun v y1 y2 hR ⟨a2, c2, h1, h2⟩ => ⟨a2, c2, h1, h2.below hR⟩) (fun vs x hR hF K hK => ?_) ?_
        · have f4 := hF 0 _ _ rfl rfl
          go_simp
          refine (HCL.out x hR).mono ?_
          rintro e x1 ⟨a2, c2, rfl, hbe, h1⟩
          exact ⟨_, rfl, hK _ _ hbe ⟨a2, c2, rfl, h1⟩⟩
        refine Plan.rel 7 rfl (Grow.refl) (fun v y => ∃ (a2 : Option Addr) (c2 : Nat), v = .agg #[.int .i64 u1, .slice a2 u2.length c2] ∧ SpQ y (.slice a2 u2.length c2) u2) (fun v y1 y2 hR ⟨a2, c2, h1, h2⟩ => ⟨a2, c2, h1, h2.below hR⟩) (fun vs x hR hF K hK => ?_) ?_
        · have f2 := hF 3 _ _ rfl rfl; have f5 := hF 0 _ _ rfl rfl
          obtain ⟨a2, c2, e9, h9⟩ := f5
          simp only [e9] at *
          go_simp
          exact hK _ _ (Grow.refl _) ⟨a2, c2, rfl, h9⟩
        refine Plan.rel 8 rfl (Grow.refl) (fun v y => ∃ (b2 : Nat) (a2 : Option Addr) (c2 : Nat), v = .slice (some ⟨b2, 0, none⟩) 1 1 ∧ Row y b2 [.int .i64 u1, .slice a2 u2.length c2] 48 ∧ SpQ y (.slice a2 u2.length c2) u2) (fun v y1 y2 hR ⟨b2, a2, c2, h1, h2, h3⟩ => ⟨b2, a2, c2, h1, h2.below hR h2.lt, h3.below hR⟩) (fun vs x hR hF K hK => ?_) ?_
        · have f6 := hF 0 _ _ rfl rfl
          obtain ⟨a2, c2, e9, h9⟩ := f6
          simp only [e9] at *
          go_simp
          exact hK _ _ (Grow.alloc _ _) ⟨_, a2, c2, rfl, Row.at _ _ _, h9.below (Grow.alloc _ _)⟩
        refine Plan.nil (fun vs x hR hF => ?_)
        have f0 := hF 7 _ _ rfl; have f1 := hF 6 _ _ rfl; have f2 := hF 5 _ _ rfl; have f3 := hF 4 _ _ rfl; have f4 := hF 3 _ _ rfl; have f5 := hF 2 _ _ rfl; have f6 := hF 1 _ _ rfl; have f7 := hF 0 _ _ rfl
        clear hF
        simp only [f0, f1, f2, f3, f4]
        clear f0 f1 f2 f3 f4
        simp only [List.drop_succ_cons, List.drop_zero]
        obtain ⟨b2, a2, c2, e7, h7r, h7s⟩ := f7
        have hxb := HY.out.2.2.trans ((grow_below hR).mono HY.out.2.2.size)
        have HOX := hid (HX.out.2.1.below hxb)
        have HBX := hid (HX.out.2.2.trans (hxb.mono (by have h8 := HX.out.2.2.size; rw [HZS.out]; exact h8)))
        have HPL := hid (PsQ.lit (q := (u1, u2)) h7r h7s)
        have HLL : Hid ((l.take j).length + [((u1, u2) : Parse)].length ≤ 1000000) := by show _ ≤ _; rw [List.length_take]; simp; omega
        have HZX : Hid (ZS ≤ x.heap.size) := by have h8 := HBX.out.size; show _ ≤ _; rw [HZS.out]; exact h8
        simp only [e7]
        clear f5 f6 h7r h7s hxb HC HCL hR
        at_builtin
        refine wpList_append_ps rfl _ _ rfl ZS _ (l.take j) [(u1, u2)] _ _ rfl HOX.out rfl HPL.out HLL.out HZX.out ?_
        intro a' n9 c' w3 hn9 hown hg hnew
        have HN : Hid (n9 = (l.take (j + 1)).length ∧ OwnP w3 ZS (.slice a' n9 c') (l.take (j + 1)) ∧ Below ZS z2 w3) := by
          have e : l.take (j + 1) = l.take j ++ [(u1, u2)] := by rw [List.take_add_one, HQ.out]; rfl
          rw [e]
          exact ⟨hn9, hown, HBX.out.grown hg HZX.out (fun g hg' => (HOX.out.lt g hg').1)⟩
        clear hn9 hown hg hnew
        go_wp2_with fail
        exact ⟨⟨j + 1, a', n9, c', rfl, by rw [Int.natCast_add]; rfl, hlt, HN.out⟩, by simp [intOf]; omega⟩
      · have hje : j = n := by omega
        have hltJ : ¬ (j : Int) < (n : Int) := by omega
        have htk : l.take j = l := List.take_of_length_le (by have := HNN.out; omega)
        have hx := HX.out
        rw [htk] at hx
        have HX2 := hid hx
        clear hx htk hje HX
        go_wp2_with fail
        go_ret2
        rw [HPR.out]
        refine ⟨na, nc, by rw [← HX2.out.1]; rfl, HB2.out.trans (HX2.out.2.2.mono (by rw [HZS.out]; exact HB2.out.size)), ?_⟩
        have h9 := HX2.out.2.1.psq
        rw [HX2.out.1] at h9
        exact h9.mono fun b _ hb => Nat.le_trans HB2.out.size (by rw [← HZS.out]; exact hb.1)
end Go.Proofs.YtkinnfejgpnddaaDoor

/- append of spans to one span just laid. -/
namespace Go.Proofs.YtkinnfejgpnddaaDoor
open Go.RowKit

theorem gives_append_head {o : Oper} {a : Act} {w : World} {K : Value → World → Prop} (s x : Operand)
    (ho : o.op = .call { callee := .builtin .append, args := #[s, x], argTypes := #[39, 39] })
    (b : Nat) (x1 x2 : Int) (sp : Spans) (u : Value) (hs : a.eval s = .slice (some ⟨b, 0, none⟩) 1 1) (hr : Row w b [.int .i64 x1, .int .i64 x2] 46) (hx : a.eval x = u) (hsrc : SpQ w u sp) (hl : sp.length ≤ 100)
    (h : ∀ a' c' w', Below w.heap.size w w' → SpQ w' (.slice a' (sp.length + 1) c') ((x1, x2) :: sp) → K (.slice a' (sp.length + 1) c') w') : gives Tryd.prog o a w K := by
  obtain ⟨i0, hi, hz0, hz1, hz2⟩ := info_parts info_span
  obtain ⟨sa, c, rfl, h1⟩ := hsrc
  rcases h1 with rfl | ⟨b2, more, rfl, hr2⟩
  · have hsr : Src Tryd.prog i0.size 39 (.slice sa 0 c) 0 [] w := by
      cases sa with
      | none => exact Src.ofNil w Tryd.underlying39 c
      | some ad => exact Src.ofSlice w Tryd.underlying39 ad 0 c [] (by simp) (fun j u hj => by simp at hj) (fun u hu => by cases hu)
    have hrun := run_append_nothing (P := Tryd.prog) w 39 39 o.type 46 i0 Tryd.underlying39 hi (some ⟨b, 0, none⟩) 1 1 (Nat.le_refl _) (.slice sa 0 c) hsr
    have hx' : a.eval x = .slice sa 0 c := hx
    unfold gives
    simp [execOp, ho, resolve, invoke, builtin, hs, hx', hrun, Result.andThen, givesUpon]
    exact h _ _ w (Below.refl _ _) ⟨_, _, rfl, .inr ⟨b, [], rfl, by simpa [spc] using hr⟩⟩
  · have hx' : a.eval x = .slice (some ⟨b2, 0, none⟩) sp.length c := hx
    by_cases hsp : sp = []
    · subst hsp
      have hsr : Src Tryd.prog i0.size 39 (.slice (some ⟨b2, 0, none⟩) 0 c) 0 [] w := Src.ofSlice w Tryd.underlying39 _ 0 c [] (by simp) (fun j u hj => by simp at hj) (fun u hu => by cases hu)
      have hrun := run_append_nothing (P := Tryd.prog) w 39 39 o.type 46 i0 Tryd.underlying39 hi (some ⟨b, 0, none⟩) 1 1 (Nat.le_refl _) _ hsr
      have hx2 : a.eval x = .slice (some ⟨b2, 0, none⟩) 0 c := hx
      unfold gives
      simp [execOp, ho, resolve, invoke, builtin, hs, hx2, hrun, Result.andThen, givesUpon]
      exact h _ _ w (Below.refl _ _) ⟨_, _, rfl, .inr ⟨b, [], rfl, by simpa [spc] using hr⟩⟩
    have hpos : 0 < sp.length := List.length_pos_iff.2 hsp
    obtain ⟨v', w', hrun, hown, hg⟩ := run_append_arg_grows (P := Tryd.prog) w 39 o.type 46 i0 (.agg #[.int .i64 0, .int .i64 0]) 2 16 Tryd.underlying39 hi hz0 hz1 hz2 rfl (by decide) ⟨b, 0, none⟩ 1 1 [.int .i64 x1, .int .i64 x2] rfl (fun j u hj => by rw [Addr.add_lit, Nat.zero_add, hr.cell j]; exact hj) ⟨b2, 0, none⟩ sp.length c (spc sp) (spc_length sp) (fun j u hj => by rw [Addr.add_lit, Nat.zero_add, hr2.cell j]; exact List.getElem?_append_left (List.getElem?_eq_some_iff.1 hj).1 ▸ hj) (by omega) (by unfold maxLen; omega) (by omega)
    obtain ⟨a', c', e⟩ := ownsRow_shape hown
    subst e
    have hn : 1 + sp.length = sp.length + 1 := by omega
    rw [hn] at hown hrun
    have hos : OwnSp w' w.heap.size (.slice a' (sp.length + 1) c') ((x1, x2) :: sp) := ⟨(fun e => by cases e), (by simpa [spc] using hown)⟩
    unfold gives
    simp [execOp, ho, resolve, invoke, builtin, hs, hx', hrun, Result.andThen, givesUpon]
    exact h _ _ w' ⟨hg.os, hg.tape, hg.output, hg.size, fun k hk => hg.block k hk (by simp)⟩ hos.spb.q
theorem results_cell_tmp2 {P : Program} {fn : Func} {p t1 t2 : Tmp} {ty : TypeId} (h : fn.results = #[.cell p ty, .tmp t1, .tmp t2]) (tmps : Array Value) (w : World) (g : Nat) (T : TypeId) (cs : Array Value) (fr : Nat × Nat) (d : TypeDesc)
    (hp : tmps.getD p undef = .pointer (some ⟨g, 0, none⟩)) (hg : w.heap[g]? = some (.cells cs T fr))
    (hu : P.underlying ty = some d) (hd : (match d with | .struct _ | .array _ _ => true | _ => false) = true) (hi : (P.info? ty).map (·.size) = some cs.size) :
    (results fn tmps).run P w = .ok (.tuple #[.agg cs, tmps.getD t1 undef, tmps.getD t2 undef]) w := by
  have hp' : tmps[p]?.getD undef = .pointer (some ⟨g, 0, none⟩) := by simpa using hp
  simp [results, h, hp', asAddr, run_loadVar_row w g T ty cs fr d hg hu hd hi]
end Go.Proofs.YtkinnfejgpnddaaDoor
