/- The program of layer 9: parses of every tree. -/
import Derived.Test.YthnpbopnpdlmnaaDoorA38
import Derived.Test.YthnpbopnpdlmnaaDoorA39
import Derived.Test.YthnpbopnpdlmnaaDoorA40
import Derived.Test.YthnpbopnpdlmnaaDoorA41
import Derived.Defers
import Derived.Recover
import Derived.Test.YthnpbopnpdlmnaaDoorA19
import Derived.Test.YthnpbopnpdlmnaaDoorA11
namespace Go.Proofs.YthnpbopnpdlmnaaDoor
open Go.RowKit
attribute [local go_sem] gives givesUpon

set_option maxRecDepth 100000 in
set_option maxHeartbeats 32000000 in
theorem ppar5 (wb : World) (N : Nat) (hN : N ≤ 9) (s : ByteArray) (hs : s.size ≤ 1000000) (lines : Bool) (p : Pay) (x0 : Re) (hop : p.op = 5) (hlo : 0 ≤ p.lo ∧ p.lo ≤ 1000) (hhi : -1 ≤ p.hi ∧ p.hi ≤ 1000) (htb : Tabs9 wb) (HX0 : PPar wb N s lines x0) : PPar wb N s lines (.mk p [x0]) := by
  intro w cs M sa sc sp i hIn hok hsz hbw hM hsp hspo hi ht
  have hIn2 := hIn
  rw [Re.In] at hIn
  obtain ⟨ad, cap, rfl, hwf, -, -, -, hall⟩ := hIn
  obtain ⟨bb, o, cs0, hq1, hq2, hq3⟩ := hall.get 0 x0 (by simp)
  subst hq1
  simp only [Pay.cells] at hIn2 ⊢
  have hP : PAt w M s lines [.int .i64 p.op, .int .u64 p.set.a, .int .u64 p.set.b, .int .u64 p.set.c, .int .u64 p.set.d, .int .i64 p.lo, .int .i64 p.hi, .int .i64 p.gr, .slice (some ⟨bb, o, none⟩) 1 cap] (.int .i64 i) (.slice sa sp.length sc) (((w.alloc (.cells #[.int .i64 p.op, .int .u64 p.set.a, .int .u64 p.set.b, .int .u64 p.set.c, .int .u64 p.set.d, .int .i64 p.lo, .int .i64 p.hi, .int .i64 p.gr, .slice (some ⟨bb, o, none⟩) 1 cap] 28)).alloc (.cells #[.int .i64 i, .slice sa sp.length sc] 71)).alloc (.cells #[.slice none 0 0] 39)) := ⟨((Row.new rfl).alloc _).alloc _, (Row.new (by simp)).alloc _, ((hM.alloc _).alloc _).alloc _, (((Below.refl _ _).alloc (Nat.le_refl _) _).alloc (by simp) _).alloc (by simp; omega) _⟩
  have hO : OutV (w.heap.size + 2) (.slice none 0 0) [] (((w.alloc (.cells #[.int .i64 p.op, .int .u64 p.set.a, .int .u64 p.set.b, .int .u64 p.set.c, .int .u64 p.set.d, .int .i64 p.lo, .int .i64 p.hi, .int .i64 p.gr, .slice (some ⟨bb, o, none⟩) 1 cap] 28)).alloc (.cells #[.int .i64 i, .slice sa sp.length sc] 71)).alloc (.cells #[.slice none 0 0] 39)) := ⟨Row.new (by simp), OwnP.nil _ _⟩
  have q0 := hP.1.c9
  have HCB : Hid (CatB w M s lines [.int .i64 p.op, .int .u64 p.set.a, .int .u64 p.set.b, .int .u64 p.set.c, .int .u64 p.set.d, .int .i64 p.lo, .int .i64 p.hi, .int .i64 p.gr, .slice (some ⟨bb, o, none⟩) 1 cap] (.int .i64 i) (.slice sa sp.length sc) [] none 0 0 (((w.alloc (.cells #[.int .i64 p.op, .int .u64 p.set.a, .int .u64 p.set.b, .int .u64 p.set.c, .int .u64 p.set.d, .int .i64 p.lo, .int .i64 p.hi, .int .i64 p.gr, .slice (some ⟨bb, o, none⟩) 1 cap] 28)).alloc (.cells #[.int .i64 i, .slice sa sp.length sc] 71)).alloc (.cells #[.slice none 0 0] 39))) := ⟨hP, hO.1, .inl ⟨rfl, rfl⟩, rfl⟩
  have HCB' : ∀ z, Below (((w.alloc (.cells #[.int .i64 p.op, .int .u64 p.set.a, .int .u64 p.set.b, .int .u64 p.set.c, .int .u64 p.set.d, .int .i64 p.lo, .int .i64 p.hi, .int .i64 p.gr, .slice (some ⟨bb, o, none⟩) 1 cap] 28)).alloc (.cells #[.int .i64 i, .slice sa sp.length sc] 71)).alloc (.cells #[.slice none 0 0] 39)).heap.size (((w.alloc (.cells #[.int .i64 p.op, .int .u64 p.set.a, .int .u64 p.set.b, .int .u64 p.set.c, .int .u64 p.set.d, .int .i64 p.lo, .int .i64 p.hi, .int .i64 p.gr, .slice (some ⟨bb, o, none⟩) 1 cap] 28)).alloc (.cells #[.int .i64 i, .slice sa sp.length sc] 71)).alloc (.cells #[.slice none 0 0] 39)) z → CatB w M s lines [.int .i64 p.op, .int .u64 p.set.a, .int .u64 p.set.b, .int .u64 p.set.c, .int .u64 p.set.d, .int .i64 p.lo, .int .i64 p.hi, .int .i64 p.gr, .slice (some ⟨bb, o, none⟩) 1 cap] (.int .i64 i) (.slice sa sp.length sc) [] none 0 0 z := fun z h => CatB.below (show CatB w M s lines [.int .i64 p.op, .int .u64 p.set.a, .int .u64 p.set.b, .int .u64 p.set.c, .int .u64 p.set.d, .int .i64 p.lo, .int .i64 p.hi, .int .i64 p.gr, .slice (some ⟨bb, o, none⟩) 1 cap] (.int .i64 i) (.slice sa sp.length sc) [] none 0 0 (((w.alloc (.cells #[.int .i64 p.op, .int .u64 p.set.a, .int .u64 p.set.b, .int .u64 p.set.c, .int .u64 p.set.d, .int .i64 p.lo, .int .i64 p.hi, .int .i64 p.gr, .slice (some ⟨bb, o, none⟩) 1 cap] 28)).alloc (.cells #[.int .i64 i, .slice sa sp.length sc] 71)).alloc (.cells #[.slice none 0 0] 39)) from HCB.out) h
  have HCW := hid HCB'
  clear HCB'
  have HT := hid ht
  have HO := hid hop
  have HMW := hid hM.lt
  have hsl : s.data.toList.length = s.size := by rw [Array.length_toList]; rfl
  have hc := prepeated_any wb N hN s hs lines p x0 bb o cap hop HX0 hIn2 hok hsz hlo hhi htb (((w.alloc (.cells #[.int .i64 p.op, .int .u64 p.set.a, .int .u64 p.set.b, .int .u64 p.set.c, .int .u64 p.set.d, .int .i64 p.lo, .int .i64 p.hi, .int .i64 p.gr, .slice (some ⟨bb, o, none⟩) 1 cap] 28)).alloc (.cells #[.int .i64 i, .slice sa sp.length sc] 71)).alloc (.cells #[.slice none 0 0] 39)) M sa sc sp i (hbw.trans (hP.2.2.2.mono hbw.size)) hP.2.2.1 (hsp.below hP.2.2.2) hspo hi
  have hPA : parses s.data.toList lines (.mk p [x0]) i sp = (visit p (withinAll [x0]) (firstP s.data.toList lines [x0]) 4097 (0, i, sp) ([], [])).bind fun st => fin s.size st.2 := by rw [parses_rep hop, hsl]; rfl
  obtain ⟨r, hr⟩ : ∃ r, r = visit p (withinAll [x0]) (firstP s.data.toList lines [x0]) 4097 (0, i, sp) ([], []) := ⟨_, rfl⟩
  rw [← hr] at hc hPA
  have HCC := hid hc
  have HPA := hid hPA
  clear hP hO hok hsz hbw hM hsp hspo ht hop hsl HX0 hq2 hq3 hIn2 hc hPA hr hall hwf htb
  have e1 : (p.op == 1) = false := by rw [HO.out]; decide
  have e2 : (p.op == 2) = false := by rw [HO.out]; decide
  have e7 : (p.op == 7) = false := by rw [HO.out]; decide
  have e8 : (p.op == 8) = false := by rw [HO.out]; decide
  have e9 : (p.op == 9) = false := by rw [HO.out]; decide
  have e6 : (p.op == 6) = false := by rw [HO.out]; decide
  have e4 : (p.op == 4) = false := by rw [HO.out]; decide
  have e3 : (p.op == 3) = false := by rw [HO.out]; decide
  have e5 : (p.op == 5) = true := by rw [HO.out]; decide
  go_enter Tryd.func37, Tryd.ntmps37
  go_wp2_with fail
  refine HCC.out.mono ?_
  rintro e z ⟨hb, hres⟩
  have hCZ := HCW.out z hb
  have HBW := hid hCZ.1.2.2.2
  cases r with
  | none =>
    subst hres
    refine And.intro rfl ?_
    show ParP w _ (.panicked exh) z
    rw [HPA.out]
    exact ⟨HBW.out, rfl⟩
  | some st =>
    obtain ⟨a9, c9, rfl, hps, hst⟩ := hres
    have q5 := hCZ.2.1.cell 0
    have f5 := hCZ.2.1.free 0
    have HN := hid (hCZ.put hps rfl HMW.out)
    have HST := hid hst
    have hpu := HN.out
    have hll : st.2.length ≤ 200000 := by have h1 := hst.2.1; have h2 := hst.2.2.1; omega
    have HPA2 : Hid (fin s.size st.2 = parses s.data.toList lines (.mk p [x0]) i sp) := by show _ = _; rw [HPA.out]; rfl
    have HE := hid (pend2_any w _ _ _ st.2 N s.size _ HN.out.2.2.1 HN.out.1.2.2.2 hll hst.2.2.2 hN hs HT.out HPA2.out)
    clear hb hps hCZ hst hpu hll q0
    go_wp2_with fail
    refine HE.out.mono ?_
    rintro e z2 ⟨hb2, h2⟩
    obtain ⟨r2, hr2⟩ : ∃ r2, r2 = parses s.data.toList lines (.mk p [x0]) i sp := ⟨_, rfl⟩
    rw [← hr2] at h2
    have HR2 := hid hr2
    clear hr2
    cases r2 with
    | none =>
      subst h2
      refine ⟨rfl, ?_⟩
      rw [← HR2.out]
      exact ⟨hb2, rfl⟩
    | some l2 =>
      obtain ⟨a2, c2, rfl, h2⟩ := h2
      have HR := hid (⟨hb2, h2⟩ : _ ∧ _)
      clear hb2 h2
      go_wp2_with fail
      go_ret
      rw [← HR2.out]
      exact ⟨HR.out.1, a2, c2, rfl, HR.out.2⟩
mutual
theorem ppar_any (wb : World) (N : Nat) (hN : N ≤ 9) (s : ByteArray) (hs : s.size ≤ 1000000) (lines : Bool) (ht : Tabs9 wb) : ∀ t : Re, t.ok N → t.reps → PPar wb N s lines t
  | .mk p xs, hok, hr => by
    have hok2 := hok
    rw [Re.ok] at hok2
    rw [Re.reps] at hr
    have hx := ppar_all wb N hN s hs lines ht xs hok2.2.2.2.2 hr.2
    have hop := hok2.1.1
    have h9 : p.op = 1 ∨ p.op = 2 ∨ p.op = 3 ∨ p.op = 4 ∨ p.op = 5 ∨ p.op = 6 ∨ p.op = 7 ∨ p.op = 8 ∨ p.op = 9 := by omega
    rcases h9 with h | h | h | h | h | h | h | h | h
    · exact ppar1 wb N hN s hs lines p xs h
    · exact ppar2 wb N hN s hs lines p xs h
    · exact ppar3 wb N hN s hs lines p xs h hx
    · exact ppar4 wb N hN s hs lines p xs h hx
    · obtain ⟨x, rfl⟩ := hok2.2.2.1 (.inl h)
      exact ppar5 wb N hN s hs lines p x h (hr.1 h).1 (hr.1 h).2 ht (hx x (by simp))
    · obtain ⟨x, rfl⟩ := hok2.2.2.1 (.inr h)
      exact ppar6 wb N hN s hs lines p x h (hx x (by simp))
    · exact ppar7 wb N hN s hs lines p xs h
    · exact ppar8 wb N hN s hs lines p xs h
    · exact ppar9 wb N hN s hs lines p xs h
theorem ppar_all (wb : World) (N : Nat) (hN : N ≤ 9) (s : ByteArray) (hs : s.size ≤ 1000000) (lines : Bool) (ht : Tabs9 wb) : ∀ xs : List Re, Re.oks N xs → Re.repsAll xs → ∀ x, x ∈ xs → PPar wb N s lines x
  | [], _, _, x, hx => by cases hx
  | t :: ts, hok, hr, x, hx => by
    rw [Re.oks] at hok
    rw [Re.repsAll] at hr
    rcases List.mem_cons.1 hx with h | h
    · rw [h]; exact ppar_any wb N hN s hs lines ht t hok.1 hr.1
    · exact ppar_all wb N hN s hs lines ht ts hok.2 hr.2 x h
end
end Go.Proofs.YthnpbopnpdlmnaaDoor

/- The program of layer 9: all parses, and whether they could be had. -/
namespace Go.Proofs.YthnpbopnpdlmnaaDoor
open Go.RowKit
attribute [local go_sem] gives givesUpon

theorem pcatch_idle (p q : Addr) (w : World) :
    CallsD Tryd.prog 35 #[.pointer (some p), .pointer (some q)] .returning w fun e u' w' => e = .returned (.tuple #[]) ∧ u' = .returning ∧ w' = w := by
  refine callsD_of_wpS Tryd.func35 rfl fun c₀ cs hu => ?_
  apply wpS_seq
  apply wpS_region
  simp [wpOpsS, go_sem, recoverD, hu, Tryd.ntmps35, Exit.thenS]
  have e : (#[Value.pointer (some p), Value.pointer (some q)] ++ ((Array.replicate 14 undef).setIfInBounds 3 (Value.nilIface)).setIfInBounds 0 (Value.nilIface)) = #[.pointer (some p), .pointer (some q), Value.nilIface, undef, undef, Value.nilIface, undef, undef, undef, undef, undef, undef, undef, undef, undef, undef] := rfl
  rw [e]
  refine wpS_of_wp ?_
  go_wp2_with fail
  cases c₀
  simp_all [bodyPostS, results, Tryd.results35]
set_option maxRecDepth 100000 in
set_option maxHeartbeats 4000000 in
theorem pcatch_panic (PB QB : Nat) (v0 v1 : Value) (w : World) (hp : Row w PB [v0] 39) (hq : Row w QB [v1] 4) :
    CallsD Tryd.prog 35 #[.pointer (some ⟨PB, 0, none⟩), .pointer (some ⟨QB, 0, none⟩)] (.panicking exh) w fun e u' w' => e = .returned (.tuple #[]) ∧ u' = .panicking [{ v := exhV, recovered := true }] ∧ w' = ((w.alloc (.cells #[] 88)).setCell ⟨PB, 0, none⟩ (.slice none 0 0)).setCell ⟨QB, 0, none⟩ (.bool false) := by
  unfold exh exhV
  refine callsD_of_wpS Tryd.func35 rfl fun c₀ cs hu => ?_
  apply wpS_seq
  apply wpS_region
  simp [wpOpsS, go_sem, recoverD, hu, Tryd.ntmps35, Exit.thenS]
  have e : (#[Value.pointer (some ⟨PB, 0, none⟩), Value.pointer (some ⟨QB, 0, none⟩)] ++ ((Array.replicate 14 undef).setIfInBounds 3 (Value.iface 88 (Value.agg #[]))).setIfInBounds 0 (Value.iface 88 (Value.agg #[]))) = #[.pointer (some ⟨PB, 0, none⟩), .pointer (some ⟨QB, 0, none⟩), Value.iface 88 (Value.agg #[]), undef, undef, Value.iface 88 (Value.agg #[]), undef, undef, undef, undef, undef, undef, undef, undef, undef, undef] := rfl
  rw [e]
  clear e
  have hta : ∀ w : World, (Instr.typeAssert (.iface 88 (.agg #[])) 20 88 true).run Tryd.prog w = .ok (.tuple #[.agg #[], .bool true]) w := fun _ => by kernel_rfl
  have hp1 := hp.alloc (.cells #[] 88)
  have hq1 := hq.alloc (.cells #[] 88)
  have hne : PB ≠ QB := fun e => by subst e; exact absurd (hp.typed hq) (by decide)
  have hne2 : QB ≠ PB := fun e => hne e.symm
  have c0 := hp1.cell 0
  have c1 := hp1.free 0
  have c2 := hq1.cell 0
  have c3 := hq1.free 0
  have c4 := (hq1.other hne2 0 (.slice none 0 0)).cell 0
  have c5 := (hq1.other hne2 0 (.slice none 0 0)).free 0
  have hcs : c₀.mode = .panicking [{ v := .iface 88 (.agg #[]), recovered := false }] := hu
  clear hp1 hq1 hp hq
  refine wpS_of_wp ?_
  go_wp2_with fail
  simp [bodyPostS, results, Tryd.results35]
end Go.Proofs.YthnpbopnpdlmnaaDoor

/- The program of layer 9: all parses of a tree, or that there are too many. -/
namespace Go.Proofs.YthnpbopnpdlmnaaDoor
open Go.RowKit
attribute [local go_sem] gives givesUpon

def AllP (w : World) (r : Option (List Parse)) (e : Ending) (w' : World) : Prop :=
  Below w.heap.size w w' ∧ ∃ a c, e = .returned (.tuple #[.slice a (r.getD []).length c, .bool r.isSome]) ∧ PsQ (w.heap.size ≤ ·) w' (.slice a (r.getD []).length c) (r.getD [])
def AllA (w : World) (BXL : List Value) (x : World) : Prop := Row x w.heap.size BXL 28 ∧ Row x (w.heap.size + 1) [.slice none 0 0] 39 ∧ Row x (w.heap.size + 2) [.bool false] 4 ∧ Below w.heap.size w x
theorem AllA.later {w : World} {BXL : List Value} {x y : World} {n : Nat} (h : AllA w BXL x) (hb : Below n x y) (hn : w.heap.size + 3 ≤ n) : AllA w BXL y :=
  ⟨h.1.below hb (by omega), h.2.1.below hb (by omega), h.2.2.1.below hb (by omega), h.2.2.2.trans (hb.mono (by omega))⟩
theorem spc_rep : ∀ N : Nat, spc (unsetAll N) = List.replicate (N * 2) (.int .i64 (-1))
  | 0 => rfl
  | N + 1 => by
    rw [show (N + 1) * 2 = N * 2 + 1 + 1 by omega, List.replicate_succ, List.replicate_succ, ← spc_rep N]
    rfl
theorem spc_unset {N : Nat} {us : List Value} (hl : us.length = N * 2) (h : ∀ j, j < N * 2 → us[j]? = some (.int .i64 (-1))) : us = spc (unsetAll N) := by
  have h1 : us = List.replicate (N * 2) (.int .i64 (-1)) := List.eq_replicate_iff.2 ⟨hl, fun x hx => by
    obtain ⟨j, hj, e⟩ := List.getElem_of_mem hx
    have h9 := h j (by omega)
    rw [List.getElem?_eq_getElem hj, e] at h9
    exact Option.some.inj h9⟩
  have h2 : spc (unsetAll N) = List.replicate (N * 2) (.int .i64 (-1)) := spc_rep N
  rw [h1, h2]
set_option maxRecDepth 100000 in
set_option maxHeartbeats 32000000 in
theorem pall_any (w : World) (p : Pay) (xs : List Re) (cs : List Value) (M : Nat) (s : ByteArray) (lines : Bool) (i : Nat) (hin : (Re.mk p xs).In w cs) (hok : (Re.mk p xs).ok (Re.mk p xs).groups) (hr : (Re.mk p xs).reps) (hN : (Re.mk p xs).groups ≤ 9) (hsz : (Re.mk p xs).size ≤ 20) (hs : s.size ≤ 1000000) (hM : Row w M [.string s, .bool lines] 67) (hi : i ≤ s.size) (ht : Tabs9 w) :
    Calls Tryd.prog 22 #[.pointer (some ⟨M, 0, none⟩), .agg cs.toArray, .int .i64 i] w (AllP w (parses s.data.toList lines (.mk p xs) i (unsetAll (Re.mk p xs).groups))) := by
  have hin2 := hin
  rw [Re.In] at hin2
  obtain ⟨ad, cap, rfl, -⟩ := hin2
  simp only [Pay.cells] at hin ⊢
  have hB3 : Below w.heap.size w (((w.alloc (.cells #[.int .i64 p.op, .int .u64 p.set.a, .int .u64 p.set.b, .int .u64 p.set.c, .int .u64 p.set.d, .int .i64 p.lo, .int .i64 p.hi, .int .i64 p.gr, .slice ad xs.length cap] 28)).alloc (.cells #[.slice none 0 0] 39)).alloc (.cells #[.bool false] 4)) := (((Below.refl _ _).alloc (Nat.le_refl _) _).alloc (by simp) _).alloc (by simp; omega) _
  have hA : AllA w [.int .i64 p.op, .int .u64 p.set.a, .int .u64 p.set.b, .int .u64 p.set.c, .int .u64 p.set.d, .int .i64 p.lo, .int .i64 p.hi, .int .i64 p.gr, .slice ad xs.length cap] (((w.alloc (.cells #[.int .i64 p.op, .int .u64 p.set.a, .int .u64 p.set.b, .int .u64 p.set.c, .int .u64 p.set.d, .int .i64 p.lo, .int .i64 p.hi, .int .i64 p.gr, .slice ad xs.length cap] 28)).alloc (.cells #[.slice none 0 0] 39)).alloc (.cells #[.bool false] 4)) := ⟨((Row.new rfl).alloc _).alloc _, (Row.new (by simp)).alloc _, Row.new (by simp), hB3⟩
  have HGR := hid (Groups_any (.mk p xs) (((w.alloc (.cells #[.int .i64 p.op, .int .u64 p.set.a, .int .u64 p.set.b, .int .u64 p.set.c, .int .u64 p.set.d, .int .i64 p.lo, .int .i64 p.hi, .int .i64 p.gr, .slice ad xs.length cap] 28)).alloc (.cells #[.slice none 0 0] 39)).alloc (.cells #[.bool false] 4)) [.int .i64 p.op, .int .u64 p.set.a, .int .u64 p.set.b, .int .u64 p.set.c, .int .u64 p.set.d, .int .i64 p.lo, .int .i64 p.hi, .int .i64 p.gr, .slice ad xs.length cap] (hin.below hB3) (by omega))
  have HPP := hid (ppar_any w (Re.mk p xs).groups hN s hs lines ht (.mk p xs) hok hr)
  have HIN := hid hin
  have HOK := hid hok
  have HM := hid hM
  have HT := hid ht
  have HA := hid hA
  have HSZ := hid hsz
  have q0 := hA.1.c9
  obtain ⟨N, hNe⟩ : ∃ N, N = (Re.mk p xs).groups := ⟨_, rfl⟩
  rw [← hNe] at HGR HPP HOK hN ⊢
  have hmf : ∀ (fn : Fn) (first cap : Array Value) (w : World), (Instr.makeFunc fn first cap).run Tryd.prog w = .ok (.func fn first cap) w := fun _ _ _ _ => rfl
  obtain ⟨i0, hi0, hz0, hz1, hz2⟩ := info_parts info_span
  have hmk : ∀ y : World, (Instr.makeSlice 69 (.int .i64 (N : Int)) (.int .i64 (N : Int))).run Tryd.prog y = .ok (.slice (some ⟨y.heap.size, 0, none⟩) N N) (y.alloc (.cells (madeCells #[.int .i64 0, .int .i64 0] (N * 2)) 74)) := fun y => by
    have h := run_makeSlice (P := Tryd.prog) y 69 74 i0 _ Tryd.underlying69 hi0 hz0 .i64 .i64 N N (by omega) (by omega) (by rw [hz1]; simp; omega) (by rw [hz2]; omega) (by omega)
    rw [hz1] at h
    simpa [Value.cells] using h
  obtain ⟨zs, hzs⟩ : ∃ zs : List Value, madeCells #[.int .i64 0, .int .i64 0] (N * 2) = zs.toArray := ⟨(madeCells #[.int .i64 0, .int .i64 0] (N * 2)).toList, by simp⟩
  have hzl : zs.length = N * 2 := by
    have := size_madeCells #[.int .i64 0, .int .i64 0] (N * 2)
    rw [hzs] at this
    simpa using this
  rw [hzs] at hmk
  have HZL := hid hzl
  clear hin hok hr hM ht hA hB3 hNe hsz hzl hi0 hz0 hz1 hz2
  go_enter_defers Tryd.func22, Tryd.ntmps22
  go_wp2_with fail
  refine HGR.out.mono ?_
  rintro e z ⟨rfl, hb⟩
  have HZ := hid (HA.out.later hb (by simp))
  clear hb q0 HGR HA
  have hz3 : w.heap.size + 3 ≤ z.heap.size := by have := HZ.out.2.2.1.lt; omega
  go_wp2_with fail
  have hnew : Row (z.alloc (.cells zs.toArray 74)) z.heap.size zs 74 := Row.new rfl
  have HNW := hid hnew
  have HZ2 := hid (HZ.out.later ((Below.refl _ _).alloc (Nat.le_refl _) (.cells zs.toArray 74)) hz3)
  clear hnew
  obtain ⟨ZB, hZB⟩ : ∃ ZB, ZB = z.heap.size := ⟨_, rfl⟩
  rw [← hZB] at HNW hz3 ⊢
  clear hZB
  go_loopw [16] (fun v16 wr => ∃ (k : Nat) (us : List Value), v16 = .int .i64 k ∧ k ≤ N ∧ Hid (Row wr ZB us 74 ∧ us.length = N * 2 ∧ (∀ j, j < k * 2 → us[j]? = some (.int .i64 (-1))) ∧ AllA w [.int .i64 p.op, .int .u64 p.set.a, .int .u64 p.set.b, .int .u64 p.set.c, .int .u64 p.set.d, .int .i64 p.lo, .int .i64 p.hi, .int .i64 p.gr, .slice ad xs.length cap] wr)) (fun v16 _ => N - (intOf v16).toNat)
  case atStart => exact ⟨0, zs, rfl, Nat.zero_le _, HNW.out, HZL.out, fun j hj => by omega, HZ2.out⟩
  case round =>
    obtain ⟨k, us, rfl, hk, HX⟩ := hrel
    have HT2 := hid (HT.out.on HX.out.2.2.2.2.2.2)
    by_cases hlt : k < N
    · have hltI : (k : Int) < (N : Int) := by omega
      have hl1 : k * 2 < us.length := by have := HX.out.2.1; omega
      have hl2 : k * 2 + 1 < us.length := by have := HX.out.2.1; omega
      have q0 := HT2.out.none0
      have q1 := HT2.out.none1
      have q2 := (HX.out.1.cell (k * 2)).trans (List.getElem?_eq_getElem hl1)
      have q3 := (HX.out.1.cell (k * 2 + 1)).trans (List.getElem?_eq_getElem hl2)
      have f0 := HX.out.1.free (k * 2)
      have f1 := HX.out.1.free (k * 2 + 1)
      generalize us[k * 2] = o0 at q2
      generalize us[k * 2 + 1] = o1 at q3
      have HN : Hid (Row ((wr.setCell ⟨ZB, k * 2, none⟩ (.int .i64 (-1))).setCell ⟨ZB, k * 2 + 1, none⟩ (.int .i64 (-1))) ZB ((us.set (k * 2) (.int .i64 (-1))).set (k * 2 + 1) (.int .i64 (-1))) 74 ∧ ((us.set (k * 2) (.int .i64 (-1))).set (k * 2 + 1) (.int .i64 (-1))).length = N * 2 ∧ (∀ j, j < (k + 1) * 2 → ((us.set (k * 2) (.int .i64 (-1))).set (k * 2 + 1) (.int .i64 (-1)))[j]? = some (.int .i64 (-1))) ∧ AllA w [.int .i64 p.op, .int .u64 p.set.a, .int .u64 p.set.b, .int .u64 p.set.c, .int .u64 p.set.d, .int .i64 p.lo, .int .i64 p.hi, .int .i64 p.gr, .slice ad xs.length cap] ((wr.setCell ⟨ZB, k * 2, none⟩ (.int .i64 (-1))).setCell ⟨ZB, k * 2 + 1, none⟩ (.int .i64 (-1)))) := by
        refine ⟨(HX.out.1.set (k * 2) (.int .i64 (-1))).set (k * 2 + 1) (.int .i64 (-1)), by rw [List.length_set, List.length_set]; exact HX.out.2.1, fun j hj => ?_, ?_⟩
        · by_cases e1 : j = k * 2 + 1
          · subst e1; rw [List.getElem?_set_self (by rw [List.length_set]; exact hl2)]
          · rw [List.getElem?_set_ne (Ne.symm e1)]
            by_cases e2 : j = k * 2
            · subst e2; rw [List.getElem?_set_self hl1]
            · rw [List.getElem?_set_ne (Ne.symm e2)]
              exact HX.out.2.2.1 j (by omega)
        · exact HX.out.2.2.2.later (((Below.refl ZB wr).setCell (Nat.le_refl _) _).setCell (Nat.le_refl _) _) hz3
      clear hl1 hl2 HX HT2
      go_wp2_with fail
      exact ⟨⟨k + 1, _, by rw [Int.natCast_add]; rfl, hlt, HN.out⟩, by simp [intOf]; omega⟩
    · obtain rfl : k = N := by omega
      have hltI : ¬ (k : Int) < (k : Int) := by omega
      have hul : (unsetAll k).length = k := by simp [unsetAll]
      have hsq : SpQ wr (.slice (some ⟨ZB, 0, none⟩) (unsetAll k).length k) (unsetAll k) := ⟨_, _, rfl, .inr ⟨ZB, [], rfl, by rw [List.append_nil, ← spc_unset HX.out.2.1 HX.out.2.2.1]; exact HX.out.1⟩⟩
      have hbw := HX.out.2.2.2.2.2.2
      have hcall := HPP.out wr [.int .i64 p.op, .int .u64 p.set.a, .int .u64 p.set.b, .int .u64 p.set.c, .int .u64 p.set.d, .int .i64 p.lo, .int .i64 p.hi, .int .i64 p.gr, .slice ad xs.length cap] M (some ⟨ZB, 0, none⟩) k (unsetAll k) i HIN.out HOK.out HSZ.out hbw (HM.out.below hbw HM.out.lt) hsq (unsetAll_ok k s.size) hi HT2.out
      rw [hul] at hcall
      obtain ⟨r, hr⟩ : ∃ r, r = parses s.data.toList lines (.mk p xs) i (unsetAll k) := ⟨_, rfl⟩
      rw [← hr] at hcall
      have HCALL := hid hcall
      have HRE := hid hr
      have q0 := HX.out.2.2.2.1.c9
      have HZ3 := hid HX.out.2.2.2
      clear hul hsq hbw hcall hr HX HT2
      go_wp2_with fail
      refine HCALL.out.mono ?_
      rintro e z2 ⟨hb, hres⟩
      have HZ4 := hid (HZ3.out.later hb (by have := HZ3.out.2.2.1.lt; omega))
      clear q0
      cases r with
      | none =>
        subst hres
        refine leaves_cons (f := 35) (args := #[.pointer (some ⟨w.heap.size + 1, 0, none⟩), .pointer (some ⟨w.heap.size + 2, 0, none⟩)]) (by simp) (by simp [go_sem]) ?_
        refine (pcatch_panic (w.heap.size + 1) (w.heap.size + 2) _ _ z2 HZ4.out.2.1 HZ4.out.2.2.1).mono ?_
        rintro e u' w'' ⟨rfl, rfl, rfl⟩
        have hne : w.heap.size + 2 ≠ w.heap.size + 1 := by omega
        have hal : Below w.heap.size w (z2.alloc (.cells #[] 88)) := HZ4.out.2.2.2.alloc HZ4.out.2.2.2.size _
        have r1 := (HZ4.out.2.1.alloc (.cells #[] 88)).set 0 (.slice none 0 0)
        have r2 := ((HZ4.out.2.2.1.alloc (.cells #[] 88)).other hne 0 (.slice none 0 0)).set 0 (.bool false)
        have h1 := r1.cell 0
        have h2 := r2.cell 0
        have hbb := (hal.setCell (p := ⟨w.heap.size + 1, 0, none⟩) (by simp) (.slice none 0 0)).setCell (p := ⟨w.heap.size + 2, 0, none⟩) (by simp) (.bool false)
        have hfin : AllP w none (.returned (.tuple #[.slice none 0 0, .bool false])) (((z2.alloc (.cells #[] 88)).setCell ⟨w.heap.size + 1, 0, none⟩ (.slice none 0 0)).setCell ⟨w.heap.size + 2, 0, none⟩ (.bool false)) := ⟨hbb, none, 0, rfl, .inl ⟨rfl, rfl⟩⟩
        rw [HRE.out] at hfin
        have HFIN := hid hfin
        simp only [List.set_cons_zero, List.getElem?_cons_zero] at h1 h2
        clear r1 r2 hal hbb hfin
        simp [Leaves, settle, results, Tryd.results22, go_sem, h1, h2]
        exact HFIN.out
      | some l =>
        obtain ⟨a9, c9, rfl, hps⟩ := hres
        have q0 := HZ4.out.2.1.cell 0
        have f0 := HZ4.out.2.1.free 0
        have hne : w.heap.size + 2 ≠ w.heap.size + 1 := by omega
        have q1 := HZ4.out.2.2.1.cell 0
        have f1 := HZ4.out.2.2.1.free 0
        go_wp2_with fail
        refine leaves_cons (f := 35) (args := #[.pointer (some ⟨w.heap.size + 1, 0, none⟩), .pointer (some ⟨w.heap.size + 2, 0, none⟩)]) (by simp) (by simp [go_sem]) ?_
        refine (pcatch_idle ⟨w.heap.size + 1, 0, none⟩ ⟨w.heap.size + 2, 0, none⟩ _).mono ?_
        rintro e u' w'' ⟨rfl, rfl, rfl⟩
        have r1 := HZ4.out.2.1.set 0 (.slice a9 l.length c9)
        have r2 := (HZ4.out.2.2.1.other hne 0 (.slice a9 l.length c9)).set 0 (.bool true)
        have h1 := r1.cell 0
        have h2 := r2.cell 0
        have hbb := (HZ4.out.2.2.2.setCell (p := ⟨w.heap.size + 1, 0, none⟩) (by simp) (.slice a9 l.length c9)).setCell (p := ⟨w.heap.size + 2, 0, none⟩) (by simp) (.bool true)
        have hps2 : PsQ (w.heap.size ≤ ·) ((z2.setCell ⟨w.heap.size + 1, 0, none⟩ (.slice a9 l.length c9)).setCell ⟨w.heap.size + 2, 0, none⟩ (.bool true)) (.slice a9 l.length c9) l := by
          have e1 : ∀ b cs T, Row z2 b cs T → T ≠ 39 → b ≠ w.heap.size + 1 := fun b cs T hr h e => by subst e; exact h (hr.typed HZ4.out.2.1)
          have e2 : ∀ b cs T, Row z2 b cs T → T ≠ 4 → b ≠ w.heap.size + 2 := fun b cs T hr h e => by subst e; exact h (hr.typed HZ4.out.2.2.1)
          exact hps.of (fun b cs hr => (hr.other (e1 b cs _ hr (by decide)) _ _).other (e2 b cs _ hr (by decide)) _ _) fun b cs hp hr => ⟨(hr.other (e1 b cs _ hr (by decide)) _ _).other (e2 b cs _ hr (by decide)) _ _, Nat.le_trans HZ3.out.2.2.2.size hp⟩
        have hfin : AllP w (some l) (.returned (.tuple #[.slice a9 l.length c9, .bool true])) ((z2.setCell ⟨w.heap.size + 1, 0, none⟩ (.slice a9 l.length c9)).setCell ⟨w.heap.size + 2, 0, none⟩ (.bool true)) := ⟨hbb, a9, c9, rfl, hps2⟩
        rw [HRE.out] at hfin
        have HFIN := hid hfin
        simp only [List.set_cons_zero, List.getElem?_cons_zero] at h1 h2
        clear r1 r2 hbb hfin hps2
        simp [Leaves, settle, results, Tryd.results22, go_sem, h1, h2]
        exact HFIN.out
end Go.Proofs.YthnpbopnpdlmnaaDoor

/- The reference's Check of a tree: the error of the tree. -/
namespace Go.Proofs.YthnpbopnpdlmnaaDoor
open Go.RowKit

end Go.Proofs.YthnpbopnpdlmnaaDoor

/- The reference of layer 9: Parses. -/
namespace Go.Proofs.YthnpbopnpdlmnaaDoor
open Go.RowKit
attribute [local go_sem] gives givesUpon

end Go.Proofs.YthnpbopnpdlmnaaDoor

/- The program of layer 9: the check of a call, and Parses. -/
namespace Go.Proofs.YthnpbopnpdlmnaaDoor
open Go.RowKit
attribute [local go_sem] gives givesUpon

set_option maxRecDepth 100000 in
set_option maxHeartbeats 16000000 in
theorem pcheck_any (w : World) (t : Re) (cs : List Value) (s : ByteArray) (at_ : Int) (hin : t.In w cs) (hsz : t.size ≤ 20) (_hs : s.size ≤ 1000000) :
    Calls Tryd.prog 21 #[.agg cs.toArray, .string s, .int .i64 at_] w fun e w' => e = .returned (.int .i64 (chk t s at_)) ∧ Below w.heap.size w w' := by
  cases t with
  | mk p xs =>
  have hin2 := hin
  rw [Re.In] at hin2
  obtain ⟨ad, cap, rfl, -⟩ := hin2
  simp only [Pay.cells] at hin ⊢
  have hb1 : Below w.heap.size w (w.alloc (.cells #[.int .i64 p.op, .int .u64 p.set.a, .int .u64 p.set.b, .int .u64 p.set.c, .int .u64 p.set.d, .int .i64 p.lo, .int .i64 p.hi, .int .i64 p.gr, .slice ad xs.length cap] 28)) := (Below.refl _ _).alloc (Nat.le_refl _) _
  have HR := hid (Row.new (w := w) (cs := [.int .i64 p.op, .int .u64 p.set.a, .int .u64 p.set.b, .int .u64 p.set.c, .int .u64 p.set.d, .int .i64 p.lo, .int .i64 p.hi, .int .i64 p.gr, .slice ad xs.length cap]) (T := 28) rfl)
  have HB1 := hid hb1
  have q0 := HR.out.c9
  have HCK := hid (Check_any (.mk p xs) (w.alloc (.cells #[.int .i64 p.op, .int .u64 p.set.a, .int .u64 p.set.b, .int .u64 p.set.c, .int .u64 p.set.d, .int .i64 p.lo, .int .i64 p.hi, .int .i64 p.gr, .slice ad xs.length cap] 28)) [.int .i64 p.op, .int .u64 p.set.a, .int .u64 p.set.b, .int .u64 p.set.c, .int .u64 p.set.d, .int .i64 p.lo, .int .i64 p.hi, .int .i64 p.gr, .slice ad xs.length cap] (hin.below hb1) (by omega))
  clear hin hb1
  go_enter Tryd.func21, Tryd.ntmps21
  go_wp2_with fail
  refine HCK.out.mono ?_
  rintro e z ⟨rfl, hb⟩
  have HZ := hid (HB1.out.trans (hb.mono HB1.out.size))
  clear hb q0 HCK HR HB1
  obtain ⟨er, her⟩ : ∃ er, er = (Re.mk p xs).err := ⟨_, rfl⟩
  have HER := hid her
  rw [← her]
  clear her
  by_cases he : er = 0
  · by_cases hr : at_ < 0 ∨ (s.size : Int) < at_
    · have hc : chk (.mk p xs) s at_ = 2 := by unfold chk; rw [if_neg (by rw [← HER.out]; simp [he]), if_pos hr]
      have HPR := hid hc
      subst he
      have hr2 : at_ < 0 ∨ (¬ at_ < 0 ∧ (s.size : Int) < at_) := by omega
      clear hr hc HER
      rcases hr2 with hr | ⟨hr1, hr⟩
      all_goals
        go_wp2_with fail
        go_ret
        rw [HPR.out]
        exact ⟨rfl, HZ.out⟩
    · have hc : chk (.mk p xs) s at_ = 0 := by unfold chk; rw [if_neg (by rw [← HER.out]; simp [he]), if_neg hr]
      have HPR := hid hc
      subst he
      have hr1 : ¬ at_ < 0 := by omega
      have hr2 : ¬ (s.size : Int) < at_ := by omega
      clear hr hc HER
      go_wp2_with fail
      go_ret
      rw [HPR.out]
      exact ⟨rfl, HZ.out⟩
  · have hc : chk (.mk p xs) s at_ = er := by unfold chk; rw [if_pos (by rw [← HER.out]; exact he), HER.out]
    have HPR := hid hc
    clear hc HER
    go_wp2_with fail
    go_ret
    rw [HPR.out]
    exact ⟨rfl, HZ.out⟩
end Go.Proofs.YthnpbopnpdlmnaaDoor

/- The program of layer 9: copies of spans. -/
namespace Go.Proofs.YthnpbopnpdlmnaaDoor
open Go.RowKit
attribute [local go_sem] gives givesUpon

theorem spc_one9 : ∀ (sp : Spans) (u : Value), u ∈ spc sp → u.oneCell' = true := fun sp u hu => spc_one sp u hu
set_option maxRecDepth 100000 in
set_option maxHeartbeats 8000000 in
theorem pclones_any (w : World) (sa : Option Addr) (sc : Nat) (sp : Spans) (h : SpQ w (.slice sa sp.length sc) sp) (hl : sp.length ≤ 9) :
    Calls Tryd.prog 23 #[.slice sa sp.length sc] w (ClrPost w sp.length sp) := by
  cases sa with
  | none =>
    have h0 : sp = [] := by
      obtain ⟨a, c, e, h1 | ⟨b, more, h1, _⟩⟩ := h
      · exact h1
      · subst h1; injection e with e1 e2 e3; cases e1
    subst h0
    have hcmp : ∀ (x : World), Sem.run Tryd.prog (binOp .eql 69 (.slice none 0 sc) (.slice none 0 0)) x = .ok (.bool true) x := fun x => rfl
    clear h
    simp only [List.length_nil]
    go_enter Tryd.func23, Tryd.ntmps23
    go_wp2_with fail
    go_ret
    exact ⟨none, 0, rfl, Below.refl _ _, none, 0, rfl, .inl rfl⟩
  | some ad =>
    obtain ⟨i0, hi, hz0, hz1, hz2⟩ := info_parts info_span
    have hnews : ∀ j u, (spc sp)[j]? = some u → w.cell? (ad.add j) = some u := by
      intro j u hj
      obtain ⟨a, c, e, h1 | ⟨b, more, h1, hr⟩⟩ := h
      · subst h1; cases hj
      · subst h1
        injection e with e1 e2 e3
        injection e1 with e1
        subst e1
        rw [Addr.add_lit, Nat.zero_add, hr.cell j]
        exact List.getElem?_append_left (List.getElem?_eq_some_iff.1 hj).1 ▸ hj
    have hlt : sp ≠ [] → ad.block < w.heap.size := by
      intro h0
      obtain ⟨a, c, e, h1 | ⟨b, more, h1, hr⟩⟩ := h
      · exact absurd h1 h0
      · subst h1
        injection e with e1 e2 e3
        injection e1 with e1
        subst e1
        exact hr.lt
    have HNW : Hid (∀ (o : Obj) j u, (spc sp)[j]? = some u → (w.alloc o).cell? (ad.add j) = some u) := fun o j u hj => by
      have h0 : sp ≠ [] := fun e => by subst e; cases hj
      exact ((((Below.refl w.heap.size w).alloc (Nat.le_refl _) o).cell (p := ad.add j) (by have h9 := hlt h0; have h8 : (ad.add j).block = ad.block := (by unfold Addr.add; split <;> rfl); rw [h8]; exact h9))).trans (hnews j u hj)
    obtain ⟨n, hn⟩ : ∃ n, n = sp.length := ⟨_, rfl⟩
    have HN := hid hn
    rw [← hn] at hl ⊢
    have hcmp : ∀ (x : World), Sem.run Tryd.prog (binOp .eql 69 (.slice (some ad) n sc) (.slice none 0 0)) x = .ok (.bool false) x := fun x => rfl
    clear h hnews hlt hn
    go_enter Tryd.func23, Tryd.ntmps23
    go_wp2_with (at_builtin; refine wpList_append_own _ rfl _ _ 69 rfl w.heap.size 74 i0 (.agg #[.int .i64 0, .int .i64 0]) 2 16 Tryd.underlying69 hi hz0 hz1 hz2 rfl (by decide) _ 0 [] rfl ?c0 ad n sc (spc sp) rfl ?c6 ?c1 ?c2 ?c3 ?c4 ?c5 ?_)
    case c0 => exact World.ownsRow_made w #[] 0 (Nat.le_refl _) (by unfold maxLen; omega) rfl
    case c1 => exact HNW.out _
    case c2 => exact spc_one9 sp
    case c3 => unfold maxLen; omega
    case c4 => omega
    case c5 => simp
    case c6 => rw [spc_length, HN.out]
    intro v' w3 hown hgrow hnw
    have hb3 : Below w.heap.size w w3 := ((Below.refl w.heap.size w).alloc (Nat.le_refl _) _).grown hgrow (by simp) (fun g hg => by simp [Value.ownBlock] at hg; omega)
    have hres : ∃ a c, v' = .slice a n c ∧ SpQ w3 (.slice a n c) sp := by
      obtain ⟨_, h1 | ⟨g, cap, cur, hv, hg, hcur, hr⟩⟩ := hown
      · obtain ⟨e1, e2⟩ := h1
        subst e1; subst e2
        have h0 : sp = [] := List.length_eq_zero_iff.1 HN.out.symm
        exact ⟨none, 0, rfl, none, 0, by rw [h0]; rfl, .inl h0⟩
      · obtain ⟨_, _, _, h4⟩ := hr
        refine ⟨some ⟨g, 0, none⟩, cap, hv, some ⟨g, 0, none⟩, cap, by rw [HN.out], .inr ⟨g, cur.toList.drop (n * 2), rfl, ?_⟩⟩
        have e : spc sp ++ cur.toList.drop (n * 2) = cur.toList := by
          rw [← h4]
          exact List.take_append_drop _ _
        unfold Row
        rw [e]
        exact hcur
    obtain ⟨a2, c2, rfl, hsq⟩ := hres
    have HB3 := hid (⟨hb3, hsq⟩ : _ ∧ _)
    clear hown hgrow hnw hb3 hsq
    go_wp2_with fail
    go_ret
    exact ⟨a2, c2, rfl, HB3.out.1, HB3.out.2⟩
end Go.Proofs.YthnpbopnpdlmnaaDoor
