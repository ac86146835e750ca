/- What adding the code of a tree does to a builder's list: the plain law. No program. -/
import Derived.Test.YthnpbopnpdlmnaaDoorA04
import Derived.Test.YthnpbopnpdlmnaaDoorA01
import Derived.MapKept
namespace Go.Proofs.YthnpbopnpdlmnaaDoor
open Go.RowKit

structure StR (c : Nat) (G : Nat → List Inst) (L : List Inst) (ov : Bool) (L' : List Inst) (ov' : Bool) : Prop where
  len : L.length ≤ L'.length
  full : ov' = true → L'.length = 4096
  same : ov = true → L' = L ∧ ov' = true
  fit : ov = false → L.length + c ≤ 4096 → L' = L ++ G L.length ∧ ov' = false
  over : ov = false → 4096 < L.length + c → ov' = true
theorem StR.trans {c d : Nat} {G H : Nat → List Inst} {L M N : List Inst} {a b e : Bool} (h : StR c G L a M b) (k : StR d H M b N e) (hG : ∀ n, (G n).length = c) : StR (c + d) (fun n => G n ++ H (n + c)) L a N e where
  len := Nat.le_trans h.len k.len
  full := k.full
  same := fun ha => by
    obtain ⟨h1, h2⟩ := h.same ha
    obtain ⟨k1, k2⟩ := k.same h2
    exact ⟨k1.trans h1, k2⟩
  fit := fun ha hc => by
    obtain ⟨h1, h2⟩ := h.fit ha (by omega)
    have hl : M.length = L.length + c := by rw [h1, List.length_append, hG]
    obtain ⟨k1, k2⟩ := k.fit h2 (by omega)
    refine ⟨?_, k2⟩
    rw [k1, hl, h1, List.append_assoc]
  over := fun ha hc => by
    by_cases h1 : L.length + c ≤ 4096
    · obtain ⟨h2, h3⟩ := h.fit ha h1
      have hl : M.length = L.length + c := by rw [h2, List.length_append, hG]
      exact k.over h3 (by omega)
    · exact (k.same (h.over ha (by omega))).2
theorem StR.none {L : List Inst} {ov : Bool} (h : ov = true → L.length = 4096) (hl : L.length ≤ 4096) : StR 0 (fun _ => []) L ov L ov :=
  ⟨Nat.le_refl _, h, fun e => ⟨rfl, e⟩, fun e _ => ⟨by simp, e⟩, fun _ hc => by omega⟩
theorem StR.add {L : List Inst} {ov : Bool} (i : Inst) (h : ov = true → L.length = 4096) (hl : L.length ≤ 4096) : StR 1 (fun _ => [i]) L ov (addL L i) (addO L ov) := by
  by_cases hf : 4096 ≤ L.length
  · have e1 : addL L i = L := if_pos hf
    have e2 : addO L ov = true := if_pos hf
    rw [e1, e2]
    exact ⟨Nat.le_refl _, fun _ => by omega, fun _ => ⟨rfl, rfl⟩, fun _ hc => by omega, fun _ _ => rfl⟩
  · have e1 : addL L i = L ++ [i] := if_neg hf
    have e2 : addO L ov = ov := if_neg hf
    rw [e1, e2]
    refine ⟨by simp, fun e => ?_, fun e => ?_, fun e _ => ⟨rfl, e⟩, fun e hc => ?_⟩
    · have := h e; omega
    · have := h e; omega
    · omega
def Re.gpre : List Re → Nat → List Inst
  | [], _ => []
  | t :: ts, n => isplit (n + 1 : Nat) (n + t.csize + 2 : Nat) :: (t.gen (n + 1) ++ [ijump 0] ++ Re.gpre ts (n + t.csize + 2))
def Re.jpos : List Re → Nat → List Nat
  | [], _ => []
  | t :: ts, n => (n + 1 + t.csize) :: Re.jpos ts (n + t.csize + 2)
def Re.psize : List Re → Nat
  | [] => 0
  | t :: ts => t.csize + 2 + Re.psize ts
theorem Re.gpre_len : ∀ (ts : List Re) (n : Nat), (Re.gpre ts n).length = Re.psize ts
  | [], n => rfl
  | t :: ts, n => by rw [Re.gpre, Re.psize]; simp [Re.gen_len t (n + 1), Re.gpre_len ts]; omega
theorem Re.gpre_snoc : ∀ (ts : List Re) (t : Re) (n : Nat), Re.gpre (ts ++ [t]) n = Re.gpre ts n ++ (isplit (n + Re.psize ts + 1 : Nat) (n + Re.psize ts + t.csize + 2 : Nat) :: (t.gen (n + Re.psize ts + 1) ++ [ijump 0]))
  | [], t, n => by simp [Re.gpre, Re.psize]
  | a :: ts, t, n => by
    rw [List.cons_append, Re.gpre, Re.gpre_snoc ts t, Re.gpre, Re.psize]
    have e : n + a.csize + 2 + Re.psize ts = n + (a.csize + 2 + Re.psize ts) := by omega
    rw [e]
    simp
theorem Re.jpos_snoc : ∀ (ts : List Re) (t : Re) (n : Nat), Re.jpos (ts ++ [t]) n = Re.jpos ts n ++ [n + Re.psize ts + 1 + t.csize]
  | [], t, n => by simp [Re.jpos, Re.psize]
  | a :: ts, t, n => by
    rw [List.cons_append, Re.jpos, Re.jpos_snoc ts t, Re.jpos, Re.psize]
    have e : n + a.csize + 2 + Re.psize ts = n + (a.csize + 2 + Re.psize ts) := by omega
    rw [e, List.cons_append]
theorem Re.psize_snoc : ∀ (ts : List Re) (t : Re), Re.psize (ts ++ [t]) = Re.psize ts + t.csize + 2
  | [], t => by simp [Re.psize]
  | a :: ts, t => by rw [List.cons_append, Re.psize, Re.psize_snoc ts t, Re.psize]; omega
theorem Re.asize_last : ∀ (ts : List Re) (t : Re), Re.asize (ts ++ [t]) = Re.psize ts + t.csize
  | [], t => by simp [Re.asize, Re.psize]
  | a :: ts, t => by
    rw [List.cons_append, Re.asize, Re.asize_last ts t, Re.psize]
    have : (ts ++ [t]).isEmpty = false := by cases ts <;> rfl
    rw [this]
    simp
    omega
def setXs (L : List Inst) (J : List Nat) (v : Int) : List Inst := J.foldl (fun L j => setX L j v) L
theorem setX_app (A B : List Inst) (k : Nat) (v : Int) : setX (A ++ B) (A.length + k) v = A ++ setX B k v := by
  unfold setX
  rw [List.getElem?_append_right (by omega), Nat.add_sub_cancel_left]
  cases h : B[k]? with
  | none => rfl
  | some f => simp [List.set_append_right]
theorem setXs_len (J : List Nat) (v : Int) : ∀ L : List Inst, (setXs L J v).length = L.length := by
  induction J with
  | nil => intro L; rfl
  | cons j J ih => intro L; show (setXs (setX L j v) J v).length = _; rw [ih, setX_len]
theorem Re.patched : ∀ (ts : List Re) (t : Re) (n fin : Nat) (A : List Inst), A.length = n → setXs (A ++ (Re.gpre ts n ++ t.gen (n + Re.psize ts))) (Re.jpos ts n) fin = A ++ Re.galt (ts ++ [t]) n fin
  | [], t, n, fin, A, h => by simp [setXs, Re.gpre, Re.jpos, Re.galt, Re.psize]
  | a :: ts, t, n, fin, A, h => by
    have he : (ts ++ [t]).isEmpty = false := by cases ts <;> rfl
    rw [List.cons_append, Re.galt, he, Re.gpre, Re.jpos, Re.psize]
    show setXs (setX _ (n + 1 + a.csize) fin) _ _ = _
    have hl := Re.gen_len a (n + 1)
    have e0 : A ++ (isplit (n + 1 : Nat) (n + a.csize + 2 : Nat) :: (a.gen (n + 1) ++ [ijump 0] ++ Re.gpre ts (n + a.csize + 2)) ++ t.gen (n + (a.csize + 2 + Re.psize ts)))
        = (A ++ (isplit (n + 1 : Nat) (n + a.csize + 2 : Nat) :: a.gen (n + 1))) ++ (ijump 0 :: (Re.gpre ts (n + a.csize + 2) ++ t.gen (n + a.csize + 2 + Re.psize ts))) := by
      rw [show n + (a.csize + 2 + Re.psize ts) = n + a.csize + 2 + Re.psize ts by omega]
      simp
    rw [e0]
    have hA : (A ++ (isplit (n + 1 : Nat) (n + a.csize + 2 : Nat) :: a.gen (n + 1))).length = n + 1 + a.csize := by simp [h, hl]; omega
    have e1 : setX ((A ++ (isplit (n + 1 : Nat) (n + a.csize + 2 : Nat) :: a.gen (n + 1))) ++ (ijump 0 :: (Re.gpre ts (n + a.csize + 2) ++ t.gen (n + a.csize + 2 + Re.psize ts)))) (n + 1 + a.csize) fin
        = (A ++ (isplit (n + 1 : Nat) (n + a.csize + 2 : Nat) :: a.gen (n + 1))) ++ setX (ijump 0 :: (Re.gpre ts (n + a.csize + 2) ++ t.gen (n + a.csize + 2 + Re.psize ts))) 0 fin := by
      have h9 := setX_app (A ++ (isplit (n + 1 : Nat) (n + a.csize + 2 : Nat) :: a.gen (n + 1))) (ijump 0 :: (Re.gpre ts (n + a.csize + 2) ++ t.gen (n + a.csize + 2 + Re.psize ts))) 0 fin
      rw [hA] at h9
      exact h9
    rw [e1]
    have e2 : setX (ijump 0 :: (Re.gpre ts (n + a.csize + 2) ++ t.gen (n + a.csize + 2 + Re.psize ts))) 0 fin = ijump fin :: (Re.gpre ts (n + a.csize + 2) ++ t.gen (n + a.csize + 2 + Re.psize ts)) := rfl
    rw [e2]
    have e3 := Re.patched ts t (n + a.csize + 2) fin ((A ++ (isplit (n + 1 : Nat) (n + a.csize + 2 : Nat) :: a.gen (n + 1))) ++ [ijump fin]) (by rw [List.length_append, hA]; simp; omega)
    rw [List.append_assoc _ [ijump fin] _] at e3
    rw [List.singleton_append] at e3
    rw [e3]
    simp
end Go.Proofs.YthnpbopnpdlmnaaDoor

/- One alternative more: the plain law. No program. -/
namespace Go.Proofs.YthnpbopnpdlmnaaDoor
open Go.RowKit

structure AltI (xs : List Re) (k : Nat) (L L' : List Inst) (ov' : Bool) (J : List Nat) : Prop where
  fit : L.length + Re.psize (xs.take k) ≤ 4096 → L' = L ++ Re.gpre (xs.take k) L.length ∧ ov' = false ∧ J = Re.jpos (xs.take k) L.length
  over : 4096 < L.length + Re.psize (xs.take k) → ov' = true
  full : ov' = true → L'.length = 4096
  jlt : ∀ j, j ∈ J → j < L'.length
  len : L.length ≤ L'.length
  jl : J.length = k
theorem setY_app (A B : List Inst) (k : Nat) (v : Int) : setY (A ++ B) (A.length + k) v = A ++ setY B k v := by
  unfold setY
  rw [List.getElem?_append_right (by omega), Nat.add_sub_cancel_left]
  cases h : B[k]? with
  | none => rfl
  | some f => simp [List.set_append_right]
theorem splitL_fit {L : List Inst} (h : L.length < 4096) : splitL L = L ++ [isplit (L.length + 1 : Nat) 0] ∧ addK L = L.length := by
  have e1 : addK L = L.length := if_neg (by omega)
  have e2 : addL L (isplit 0 0) = L ++ [isplit 0 0] := if_neg (by omega)
  refine ⟨?_, e1⟩
  unfold splitL
  rw [e1, e2]
  have := setX_app L [isplit 0 0] 0 ((L.length : Nat) + 1 : Int)
  rw [Nat.add_zero] at this
  rw [this]
  rfl
theorem alt_step {xs : List Re} {k : Nat} {L L' L2 : List Inst} {ov' o2 : Bool} {J : List Nat} (h : AltI xs k L L' ov' J) (hk : k < xs.length) (hl : L'.length ≤ 4096) (ht : StR xs[k].csize xs[k].gen (splitL L') (addO L' ov') L2 o2) (h2 : L2.length ≤ 4096) :
    AltI xs (k + 1) L (setY (addL L2 (ijump 0)) (addK L') ((addL L2 (ijump 0)).length : Nat)) (addO L2 o2) (J ++ [addK L2]) := by
  have htk : xs.take (k + 1) = xs.take k ++ [xs[k]] := by rw [List.take_add_one, List.getElem?_eq_getElem hk]; rfl
  have hps : Re.psize (xs.take (k + 1)) = Re.psize (xs.take k) + xs[k].csize + 2 := by rw [htk, Re.psize_snoc]
  have hal := addL_len L2 (ijump 0) h2
  have hs1 : (splitL L').length ≤ L2.length := ht.len
  have hs2 := splitL_len L'
  have hs3 := addL_len L' (isplit 0 0) hl
  have hge : L'.length ≤ (addL L' (isplit 0 0)).length := by unfold addL; split <;> simp
  have hge2 : L2.length ≤ (addL L2 (ijump 0)).length := by unfold addL; split <;> simp
  have hfull : addO L2 o2 = true → (addL L2 (ijump 0)).length = 4096 := fun e => by
    unfold addO at e
    unfold addL
    by_cases hf : 4096 ≤ L2.length
    · rw [if_pos hf]; omega
    · rw [if_neg hf] at e
      have := ht.full e
      omega
  refine ⟨fun hc => ?_, fun hc => ?_, fun e => by rw [setY_len]; exact hfull e, fun j hj => ?_, by rw [setY_len]; have := h.len; omega, by rw [List.length_append, h.jl]; rfl⟩
  · rw [hps] at hc
    obtain ⟨f1, f2, f3⟩ := h.fit (by omega)
    have hm : L'.length = L.length + Re.psize (xs.take k) := by rw [f1, List.length_append, Re.gpre_len]
    obtain ⟨g1, g2⟩ := splitL_fit (L := L') (by omega)
    have g3 : addO L' ov' = false := by unfold addO; rw [if_neg (by omega)]; exact f2
    obtain ⟨t1, t2⟩ := ht.fit g3 (by rw [g1]; simp; omega)
    have t3 : (splitL L').length = L'.length + 1 := by rw [g1]; simp
    have hg := Re.gen_len xs[k] (L'.length + 1)
    rw [t3] at t1
    have t4 : L2.length = L'.length + 1 + xs[k].csize := by rw [t1, List.length_append, t3, hg]
    have a1 : addL L2 (ijump 0) = L2 ++ [ijump 0] := if_neg (by omega)
    have a2 : addK L2 = L2.length := if_neg (by omega)
    have a3 : addO L2 o2 = false := by unfold addO; rw [if_neg (by omega)]; exact t2
    refine ⟨?_, a3, ?_⟩
    · rw [a1, g2, htk, Re.gpre_snoc, t1, g1, ← hm]
      have e0 : L' ++ [isplit (L'.length + 1 : Nat) 0] ++ xs[k].gen (L'.length + 1) ++ [ijump 0] = L' ++ (isplit (L'.length + 1 : Nat) 0 :: (xs[k].gen (L'.length + 1) ++ [ijump 0])) := by simp
      rw [e0]
      have e1 : ∀ v : Int, setY (L' ++ (isplit (L'.length + 1 : Nat) 0 :: (xs[k].gen (L'.length + 1) ++ [ijump 0]))) L'.length v = L' ++ setY (isplit (L'.length + 1 : Nat) 0 :: (xs[k].gen (L'.length + 1) ++ [ijump 0])) 0 v := fun v => setY_app L' _ 0 v
      rw [e1]
      have e2 : ((L' ++ (isplit (L'.length + 1 : Nat) 0 :: (xs[k].gen (L'.length + 1) ++ [ijump 0]))).length : Nat) = L'.length + xs[k].csize + 2 := by simp [hg]; omega
      rw [e2, ← List.append_assoc, ← f1]
      rfl
    · rw [a2, htk, Re.jpos_snoc, f3, t4, hm]
  · rw [hps] at hc
    have hmono : addO L' ov' = true → addO L2 o2 = true := fun e => by
      have t1 := (ht.same e).2
      have t2 := ht.full t1
      unfold addO; rw [if_pos (by omega)]
    by_cases hp : L.length + Re.psize (xs.take k) ≤ 4096
    · obtain ⟨f1, f2, f3⟩ := h.fit hp
      have hm : L'.length = L.length + Re.psize (xs.take k) := by rw [f1, List.length_append, Re.gpre_len]
      by_cases hf : 4096 ≤ L'.length
      · exact hmono (if_pos hf)
      · have g3 : addO L' ov' = false := by unfold addO; rw [if_neg hf]; exact f2
        obtain ⟨g1, g2⟩ := splitL_fit (L := L') (by omega)
        have t3 : (splitL L').length = L'.length + 1 := by rw [g1]; simp
        by_cases hq : (splitL L').length + xs[k].csize ≤ 4096
        · obtain ⟨t1, t2⟩ := ht.fit g3 hq
          have hg := Re.gen_len xs[k] (splitL L').length
          have t4 : L2.length = L'.length + 1 + xs[k].csize := by rw [t1, List.length_append, hg, t3]
          unfold addO; rw [if_pos (by omega)]
        · have t1 := ht.over g3 (by omega)
          have t2 := ht.full t1
          unfold addO; rw [if_pos (by omega)]
    · have o1 := h.over (by omega)
      have o2' := h.full o1
      exact hmono (if_pos (by omega))
  · rw [setY_len]
    rcases List.mem_append.1 hj with hj | hj
    · have := h.jlt j hj; omega
    · rw [List.mem_singleton.1 hj]; exact hal.1
theorem alt_end {xs : List Re} {k : Nat} {L L' L2 : List Inst} {ov' o2 : Bool} {J : List Nat} (h : AltI xs k L L' ov' J) (hk : k + 1 = xs.length) (ht : StR (xs[k]'(by omega)).csize (xs[k]'(by omega)).gen L' ov' L2 o2) (_hl : L.length ≤ 4096) :
    StR (Re.asize xs) (fun n => Re.galt xs n (n + Re.asize xs)) L false (setXs L2 J (L2.length : Nat)) o2 := by
  have hxs : xs = xs.take k ++ [xs[k]'(by omega)] := by
    have := List.take_append_drop k xs
    rw [List.drop_eq_getElem_cons (by omega), List.drop_eq_nil_of_le (by omega)] at this
    exact this.symm
  have has : Re.asize xs = Re.psize (xs.take k) + (xs[k]'(by omega)).csize := by
    have := Re.asize_last (xs.take k) (xs[k]'(by omega))
    rw [← hxs] at this
    exact this
  refine ⟨by rw [setXs_len]; have := h.len; have := ht.len; omega, fun e => by rw [setXs_len]; exact ht.full e, fun e => (by cases e), fun _ hc => ?_, fun _ hc => ?_⟩
  · rw [has] at hc
    obtain ⟨f1, f2, f3⟩ := h.fit (by omega)
    have hm : L'.length = L.length + Re.psize (xs.take k) := by rw [f1, List.length_append, Re.gpre_len]
    obtain ⟨t1, t2⟩ := ht.fit f2 (by omega)
    have hg := Re.gen_len (xs[k]'(by omega)) L'.length
    have hl2 : L2.length = L.length + Re.asize xs := by rw [t1, List.length_append, hg, hm, has]; omega
    refine ⟨?_, t2⟩
    rw [hl2, t1, f3, hm, f1, List.append_assoc]
    have := Re.patched (xs.take k) (xs[k]'(by omega)) L.length (L.length + Re.asize xs) L rfl
    rw [← hxs] at this
    exact this
  · rw [has] at hc
    by_cases hp : L.length + Re.psize (xs.take k) ≤ 4096
    · obtain ⟨f1, f2, f3⟩ := h.fit hp
      have hm : L'.length = L.length + Re.psize (xs.take k) := by rw [f1, List.length_append, Re.gpre_len]
      exact ht.over f2 (by omega)
    · exact (ht.same (h.over (by omega))).2
end Go.Proofs.YthnpbopnpdlmnaaDoor

/- The code of a repetition: the plain law. No program. -/
namespace Go.Proofs.YthnpbopnpdlmnaaDoor
open Go.RowKit

theorem Re.rep1 (p : Pay) (x0 : Re) (ho : p.op = 5) (hl : p.lo = 1) : Re.csize (.mk p [x0]) = x0.csize + 1 ∧ Re.gen (.mk p [x0]) = fun n => x0.gen n ++ [isplit n (n + x0.csize + 1 : Nat)] := by
  constructor
  · rw [Re.csize, if_neg (by omega), if_neg (by omega), if_pos ho, if_pos hl]; simp [Re.csizes]
  · funext n
    rw [Re.gen, if_neg (by omega), if_neg (by omega), if_neg (by omega), if_neg (by omega), if_pos ho, if_pos hl]; simp [Re.gens, Re.csizes]
theorem Re.rep2 (p : Pay) (x0 : Re) (ho : p.op = 5) (hl : p.lo ≠ 1) (hh : 0 ≤ p.hi) : Re.csize (.mk p [x0]) = x0.csize + 1 ∧ Re.gen (.mk p [x0]) = fun n => isplit (n + 1 : Nat) (n + 1 + x0.csize : Nat) :: x0.gen (n + 1) := by
  constructor
  · rw [Re.csize, if_neg (by omega), if_neg (by omega), if_pos ho, if_neg hl, if_neg (by omega)]; simp [Re.csizes]
  · funext n
    rw [Re.gen, if_neg (by omega), if_neg (by omega), if_neg (by omega), if_neg (by omega), if_pos ho, if_neg hl, if_neg (by omega), if_neg (by omega)]; simp [Re.gens, Re.csizes]
theorem Re.rep3 (p : Pay) (x0 : Re) (ho : p.op = 5) (hl : p.lo ≠ 1) (hh : p.hi < 0) : Re.csize (.mk p [x0]) = x0.csize + 2 ∧ Re.gen (.mk p [x0]) = fun n => isplit (n + 1 : Nat) (n + 2 + x0.csize : Nat) :: (x0.gen (n + 1) ++ [ijump n]) := by
  constructor
  · rw [Re.csize, if_neg (by omega), if_neg (by omega), if_pos ho, if_neg hl, if_pos hh]; simp [Re.csizes]
  · funext n
    rw [Re.gen, if_neg (by omega), if_neg (by omega), if_neg (by omega), if_neg (by omega), if_pos ho, if_neg hl, if_pos hh, if_pos hh]
    simp only [Re.gens, Re.csizes, List.append_nil, Nat.add_zero]
    rw [show n + 1 + x0.csize + 1 = n + 2 + x0.csize by omega]
theorem rep_one {c : Nat} {G : Nat → List Inst} {L L1 : List Inst} {o1 : Bool} (hG : ∀ n, (G n).length = c) (h : StR c G L false L1 o1) (hl : L1.length ≤ 4096) :
    StR (c + 1) (fun n => G n ++ [isplit n (n + c + 1 : Nat)]) L false (setY (addL L1 (isplit (L.length : Nat) 0)) (addK L1) ((addK L1 : Nat) + 1)) (addO L1 o1) := by
  have hge : L1.length ≤ (addL L1 (isplit (L.length : Nat) 0)).length := by unfold addL; split <;> simp
  refine ⟨by rw [setY_len]; have := h.len; omega, fun e => ?_, fun e => (by cases e), fun _ hc => ?_, fun _ hc => ?_⟩
  · rw [setY_len]
    unfold addO at e
    unfold addL
    by_cases hf : 4096 ≤ L1.length
    · rw [if_pos hf]; omega
    · rw [if_neg hf] at e
      have := h.full e
      omega
  · obtain ⟨h1, h2⟩ := h.fit rfl (by omega)
    have hlen : L1.length = L.length + c := by rw [h1, List.length_append, hG]
    have e1 : addL L1 (isplit (L.length : Nat) 0) = L1 ++ [isplit (L.length : Nat) 0] := if_neg (by omega)
    have e2 : addK L1 = L1.length := if_neg (by omega)
    have e3 : addO L1 o1 = o1 := if_neg (by omega)
    rw [e1, e2, e3]
    refine ⟨?_, h2⟩
    have e4 : setY (L1 ++ [isplit (L.length : Nat) 0]) L1.length ((L1.length : Nat) + 1) = L1 ++ setY [isplit (L.length : Nat) 0] 0 ((L1.length : Nat) + 1) := setY_app L1 _ 0 _
    rw [e4]
    have e5 : setY [isplit (L.length : Nat) 0] 0 ((L1.length : Nat) + 1) = [isplit (L.length : Nat) (L.length + c + 1 : Nat)] := by
      rw [hlen]; rfl
    rw [e5, ← List.append_assoc, ← h1]
  · by_cases hf : L.length + c ≤ 4096
    · obtain ⟨h1, h2⟩ := h.fit rfl hf
      have hlen : L1.length = L.length + c := by rw [h1, List.length_append, hG]
      unfold addO; rw [if_pos (by omega)]
    · have h1 := h.over rfl (by omega)
      have h2 := h.full h1
      unfold addO; rw [if_pos (by omega)]
theorem addO_up {L : List Inst} {o : Bool} (h : o = true → L.length = 4096) (e : o = true) : addO L o = true := by unfold addO; rw [if_pos (by have := h e; omega)]
theorem split_full {L : List Inst} (hl : L.length ≤ 4096) (e : addO L false = true) : (splitL L).length = 4096 := by
  rw [splitL_len]
  unfold addO at e
  unfold addL
  by_cases hf : 4096 ≤ L.length
  · rw [if_pos hf]; omega
  · rw [if_neg hf] at e; cases e
theorem rep_opt {c : Nat} {G : Nat → List Inst} {L L2 : List Inst} {o2 : Bool} (hG : ∀ n, (G n).length = c) (h : StR c G (splitL L) (addO L false) L2 o2) (hl : L.length ≤ 4096) :
    StR (c + 1) (fun n => isplit (n + 1 : Nat) (n + 1 + c : Nat) :: G (n + 1)) L false (setY L2 (addK L) (L2.length : Nat)) o2 := by
  have hs := splitL_len L
  have hge : L.length ≤ (addL L (isplit 0 0)).length := by unfold addL; split <;> simp
  refine ⟨by rw [setY_len]; have := h.len; omega, fun e => by rw [setY_len]; exact h.full e, fun e => (by cases e), fun _ hc => ?_, fun _ hc => ?_⟩
  · obtain ⟨s1, s2⟩ := splitL_fit (L := L) (by omega)
    have s3 : addO L false = false := if_neg (by omega)
    have s4 : (splitL L).length = L.length + 1 := by rw [s1]; simp
    obtain ⟨h1, h2⟩ := h.fit s3 (by omega)
    refine ⟨?_, h2⟩
    have hlen : L2.length = L.length + 1 + c := by rw [h1, List.length_append, hG, s4]
    rw [s2, h1, s4, s1]
    have e4 : ∀ v, setY (L ++ (isplit (L.length + 1 : Nat) 0 :: G (L.length + 1))) L.length v = L ++ setY (isplit (L.length + 1 : Nat) 0 :: G (L.length + 1)) 0 v := fun v => setY_app L _ 0 v
    rw [List.append_assoc, List.singleton_append, e4]
    have e5 : (L ++ (isplit (L.length + 1 : Nat) 0 :: G (L.length + 1))).length = L.length + 1 + c := by simp [hG]; omega
    rw [e5]
    rfl
  · by_cases hf : 4096 ≤ L.length
    · exact (h.same (if_pos hf)).2
    · obtain ⟨s1, s2⟩ := splitL_fit (L := L) (by omega)
      have s3 : addO L false = false := if_neg (by omega)
      have s4 : (splitL L).length = L.length + 1 := by rw [s1]; simp
      exact h.over s3 (by omega)
theorem rep_star {c : Nat} {G : Nat → List Inst} {L L2 : List Inst} {o2 : Bool} (hG : ∀ n, (G n).length = c) (h : StR c G (splitL L) (addO L false) L2 o2) (hl : L.length ≤ 4096) (hl2 : L2.length ≤ 4096) :
    StR (c + 2) (fun n => isplit (n + 1 : Nat) (n + 2 + c : Nat) :: (G (n + 1) ++ [ijump n])) L false (setY (addL L2 (ijump (addK L : Nat))) (addK L) ((addL L2 (ijump (addK L : Nat))).length : Nat)) (addO L2 o2) := by
  have hs := splitL_len L
  have hge : L.length ≤ (addL L (isplit 0 0)).length := by unfold addL; split <;> simp
  have hge2 : L2.length ≤ (addL L2 (ijump (addK L : Nat))).length := by unfold addL; split <;> simp
  refine ⟨by rw [setY_len]; have := h.len; omega, fun e => ?_, fun e => (by cases e), fun _ hc => ?_, fun _ hc => ?_⟩
  · rw [setY_len]
    unfold addO at e
    unfold addL
    by_cases hf : 4096 ≤ L2.length
    · rw [if_pos hf]; omega
    · rw [if_neg hf] at e
      have := h.full e
      omega
  · obtain ⟨s1, s2⟩ := splitL_fit (L := L) (by omega)
    have s3 : addO L false = false := if_neg (by omega)
    have s4 : (splitL L).length = L.length + 1 := by rw [s1]; simp
    obtain ⟨h1, h2⟩ := h.fit s3 (by omega)
    have hlen : L2.length = L.length + 1 + c := by rw [h1, List.length_append, hG, s4]
    have e1 : addL L2 (ijump (addK L : Nat)) = L2 ++ [ijump (addK L : Nat)] := if_neg (by omega)
    have e3 : addO L2 o2 = o2 := if_neg (by omega)
    rw [e1, e3]
    refine ⟨?_, h2⟩
    rw [s2, h1, s4, s1]
    have e4 : ∀ v, setY (L ++ (isplit (L.length + 1 : Nat) 0 :: (G (L.length + 1) ++ [ijump (L.length : Nat)]))) L.length v = L ++ setY (isplit (L.length + 1 : Nat) 0 :: (G (L.length + 1) ++ [ijump (L.length : Nat)])) 0 v := fun v => setY_app L _ 0 v
    have e6 : L ++ [isplit (L.length + 1 : Nat) 0] ++ G (L.length + 1) ++ [ijump (L.length : Nat)] = L ++ (isplit (L.length + 1 : Nat) 0 :: (G (L.length + 1) ++ [ijump (L.length : Nat)])) := by simp
    rw [e6, e4]
    have e5 : (L ++ (isplit (L.length + 1 : Nat) 0 :: (G (L.length + 1) ++ [ijump (L.length : Nat)]))).length = L.length + 2 + c := by simp [hG]; omega
    rw [e5]
    rfl
  · by_cases hf : 4096 ≤ L.length
    · exact addO_up h.full (h.same (if_pos hf)).2
    · obtain ⟨s1, s2⟩ := splitL_fit (L := L) (by omega)
      have s3 : addO L false = false := if_neg (by omega)
      have s4 : (splitL L).length = L.length + 1 := by rw [s1]; simp
      by_cases hq : L.length + 1 + c ≤ 4096
      · obtain ⟨h1, h2⟩ := h.fit s3 (by omega)
        have hlen : L2.length = L.length + 1 + c := by rw [h1, List.length_append, hG, s4]
        unfold addO; rw [if_pos (by omega)]
      · exact addO_up h.full (h.over s3 (by omega))
end Go.Proofs.YthnpbopnpdlmnaaDoor

/- Maps with int keys: what a look-up gives, and what a store leaves. Nothing here speaks of the program. -/
namespace Go.Proofs.YthnpbopnpdlmnaaDoor
open Go.RowKit

def keyIs (k : Int) (e : MapEntry) : Bool := match e.key with | .int .i64 k' => k == k' | _ => false
def findE (k : Int) : List MapEntry → Option Value
  | [] => none
  | e :: es => if keyIs k e then some e.val else findE k es
def IMap (w : World) (M : Nat) (f : Int → Option Value) : Prop :=
  ∃ es clock, w.heap[M]? = some (.map es clock) ∧ (∀ e, e ∈ es.toList → ∃ k, e.key = .int .i64 k) ∧ ∀ k, f k = findE k es.toList

theorem IMap.lt {w : World} {M : Nat} {f : Int → Option Value} (h : IMap w M f) : M < w.heap.size := by
  obtain ⟨es, c, h1, _⟩ := h
  rcases Nat.lt_or_ge M w.heap.size with h2 | h2
  · exact h2
  · simp [Array.getElem?_eq_none h2] at h1
theorem IMap.of_block {w w' : World} {M : Nat} {f : Int → Option Value} (h : IMap w M f) (hb : w'.heap[M]? = w.heap[M]?) : IMap w' M f := by
  obtain ⟨es, c, h1, h2⟩ := h
  exact ⟨es, c, hb.trans h1, h2⟩
theorem IMap.below {n : Nat} {w w' : World} {M : Nat} {f : Int → Option Value} (h : IMap w M f) (hb : Below n w w') (hM : M < n) : IMap w' M f := h.of_block (hb.block M hM)
theorem IMap.alloc {w : World} {M : Nat} {f : Int → Option Value} (h : IMap w M f) (o : Obj) : IMap (w.alloc o) M f := h.of_block (Below.heap_alloc _ _ _ h.lt)
theorem IMap.drew {w : World} {M : Nat} {f : Int → Option Value} (h : IMap w M f) : IMap w.drew M f := h
theorem IMap.new {w : World} {M : Nat} (h : M = w.heap.size) : IMap (w.alloc (.map #[] 0)) M (fun _ => none) := by
  subst h
  exact ⟨#[], 0, by show (w.heap.push _)[w.heap.size]? = _; simp, by simp, fun k => rfl⟩
theorem IMap.other {w : World} {M B : Nat} {f : Int → Option Value} (h : IMap w M f) (hn : M ≠ B) (j : Nat) (v : Value) : IMap (w.setCell ⟨B, j, none⟩ v) M f := h.of_block (Below.heap_setCell _ _ _ _ hn)

theorem findNow_int (k : Int) : ∀ (es : List MapEntry) (i : Nat), (∀ e, e ∈ es → ∃ k, e.key = .int .i64 k) →
    ∃ r, Instr.findNow (.int .i64) (.int .i64 k) es i = some r ∧ r.map (·.2) = findE k es ∧ ∀ j v, r = some (j, v) → i ≤ j ∧ ∃ e, es[j - i]? = some e ∧ e.key = .int .i64 k ∧ e.val = v ∧ ∀ m, m < j - i → ∀ e', es[m]? = some e' → keyIs k e' = false
  | [], i, _ => ⟨none, rfl, rfl, fun _ _ h => by cases h⟩
  | e :: es, i, h => by
    obtain ⟨k', hk'⟩ := h e (by simp)
    obtain ⟨r, h1, h2, h3⟩ := findNow_int k es (i + 1) (fun e he => h e (by simp [he]))
    by_cases hkk : k = k'
    · subst hkk
      refine ⟨some (i, e.val), by simp [Instr.findNow, hk', Instr.sameNow], by simp [findE, keyIs, hk'], fun j v hj => ?_⟩
      simp only [Option.some.injEq, Prod.mk.injEq] at hj
      obtain ⟨rfl, rfl⟩ := hj
      exact ⟨Nat.le_refl _, e, by simp, hk', rfl, fun m hm => by omega⟩
    · have hb : (k == k') = false := by simpa using hkk
      refine ⟨r, by simp [Instr.findNow, hk', Instr.sameNow, hb, h1], by simp [findE, keyIs, hk', hb, h2], fun j v hj => ?_⟩
      obtain ⟨h4, e', h5, h6, h7, h8⟩ := h3 j v hj
      refine ⟨by omega, e', ?_, h6, h7, fun m hm e'' he'' => ?_⟩
      · rw [show j - i = (j - (i + 1)) + 1 by omega]; simpa using h5
      · cases m with
        | zero => simp at he''; subst he''; simp [keyIs, hk', hb]
        | succ m => exact h8 m (by omega) e'' (by simpa using he'')

section
variable {P : Program}
theorem IMap.run_lookup {w : World} {M : Nat} {f : Int → Option Value} (h : IMap w M f) (T K E : TypeId) (hT : P.underlying T = some (.map K E)) (hK : P.underlying K = some (.int .i64)) (z : Value) (hz : (zeroValue E).run P w = .ok z w) (k : Int) :
    (Instr.lookup T (.map (some M)) (.int .i64 k) false).run P w = .ok ((f k).getD z) w := by
  obtain ⟨es, c, h1, h2, h3⟩ := h
  obtain ⟨r, h4, h5, _⟩ := findNow_int k es.toList 0 h2
  have hck : (Instr.checkKey es.isEmpty 10000 K (.int .i64 k)).run P w = .ok () w := by
    unfold Instr.checkKey
    simp [run_underlying hK]
  have hfk : (Instr.findKey K (.int .i64 k) es.toList).run P w = .ok r w := by
    simp [Instr.findKey, run_underlying hK, h4]
  rw [h3 k, ← h5]
  cases r with
  | none => simp [Instr.lookup, run_underlying hT, MapKept.run_getObj_map h1, hck, hfk, hz, Result.andThen]
  | some p => simp [Instr.lookup, run_underlying hT, MapKept.run_getObj_map h1, hck, hfk, Result.andThen]

theorem findE_append (k : Int) (e : MapEntry) : ∀ es : List MapEntry, findE k (es ++ [e]) = match findE k es with | some v => some v | none => if keyIs k e then some e.val else none
  | [] => by simp [findE]
  | e' :: es => by
    simp only [List.cons_append, findE]
    split
    · rfl
    · exact findE_append k e es
theorem findE_modify (k k' : Int) (v : Value) (key : Value) (hkey : key = .int .i64 k) : ∀ (es : List MapEntry) (j : Nat), (∃ e, es[j]? = some e ∧ e.key = .int .i64 k) → (∀ m, m < j → ∀ e', es[m]? = some e' → keyIs k e' = false) →
    findE k' (es.modify j fun e => { e with key, val := v }) = if k' = k then some v else findE k' es
  | [], j, h, _ => by obtain ⟨e, h, _⟩ := h; simp at h
  | e :: es, 0, h, _ => by
    obtain ⟨e0, h0, h1⟩ := h
    simp at h0; subst h0
    simp only [List.modify_zero_cons, findE]
    have e1 : keyIs k' { e with key, val := v } = decide (k' = k) := by simp [keyIs, hkey]; rfl
    have e2 : keyIs k' e = decide (k' = k) := by simp [keyIs, h1]; rfl
    rw [e1, e2]
    by_cases hk : k' = k <;> simp [hk]
  | e :: es, j + 1, h, hm => by
    have ih := findE_modify k k' v key hkey es j (by simpa using h) (fun m hmj e' he' => hm (m + 1) (by omega) e' (by simpa using he'))
    have h0 := hm 0 (by omega) e rfl
    simp only [List.modify_succ_cons, findE]
    rw [ih]
    by_cases hk : k' = k
    · subst hk; simp [h0]
    · simp [hk]

theorem IMap.run_update {w : World} {M : Nat} {f : Int → Option Value} (h : IMap w M f) (T K E : TypeId) (hT : P.underlying T = some (.map K E)) (hK : P.underlying K = some (.int .i64)) (k : Int) (v : Value) :
    ∃ w', (Instr.mapUpdate T (.map (some M)) (.int .i64 k) v).run P w = .ok () w' ∧ IMap w' M (fun x => if x = k then some v else f x) ∧ But [M] w w' := by
  have hlt := h.lt
  obtain ⟨es, c, h1, h2, h3⟩ := h
  obtain ⟨r, h4, h5, h6⟩ := findNow_int k es.toList 0 h2
  have hck : (Instr.checkKey false 10000 K (.int .i64 k)).run P w = .ok () w := by
    unfold Instr.checkKey
    simp [run_underlying hK]
  have hfk : (Instr.findKey K (.int .i64 k) es.toList).run P w = .ok r w := by
    simp [Instr.findKey, run_underlying hK, h4]
  have hbut : ∀ o : Obj, But [M] w { w with heap := w.heap.setIfInBounds M o } := fun o => ⟨rfl, rfl, rfl, by simp, fun i hi hn => by
    have : M ≠ i := by simpa using Ne.symm (by simpa using hn)
    simp [this]⟩
  cases r with
  | none =>
    refine ⟨{ w with heap := w.heap.setIfInBounds M (.map (es.push { key := .int .i64 k, val := v, born := c }) (c + 1)) }, by simp [Instr.mapUpdate, run_underlying hT, MapKept.run_getObj_map h1, hck, hfk, MapKept.run_setObj_map _ h1, Result.andThen], ⟨es.push { key := .int .i64 k, val := v, born := c }, c + 1, by simp [hlt], ?_, ?_⟩, hbut _⟩
    · intro e he
      simp at he
      rcases he with he | he
      · exact h2 e (by simpa using he)
      · subst he; exact ⟨k, rfl⟩
    · intro x
      simp only [Array.toList_push, findE_append]
      have h7 := h3 k
      rw [← h5] at h7
      by_cases hx : x = k
      · subst hx
        rw [← h3 x, h7]
        simp [keyIs]
      · rw [← h3 x]
        have : keyIs x { key := .int .i64 k, val := v, born := c } = false := by simp [keyIs, hx]
        rw [this]
        cases f x <;> simp [hx]
  | some p =>
    obtain ⟨j, v0⟩ := p
    obtain ⟨_, e, h7, h8, h9, h10⟩ := h6 j v0 rfl
    simp only [Nat.sub_zero] at h7 h10
    have hstay : (Instr.keyThatStays (((es[j]?).map (·.key)).getD (.int .i64 k)) (.int .i64 k)).run P w = .ok (.int .i64 k) w := by
      have : es[j]? = some e := by simpa using h7
      simp [this, h8, Instr.keyThatStays, Instr.sameBits]
    refine ⟨{ w with heap := w.heap.setIfInBounds M (.map (es.modify j fun e => { e with key := .int .i64 k, val := v }) c) }, by simp only [Instr.mapUpdate, Sem.run_bind, run_underlying hT, MapKept.run_getObj_map h1, hck, hfk, Result.andThen_ok, hstay, MapKept.run_setObj_map _ h1], ⟨es.modify j fun e => { e with key := .int .i64 k, val := v }, c, by simp [hlt], ?_, ?_⟩, hbut _⟩
    · intro e' he'
      obtain ⟨m, hm⟩ := List.mem_iff_getElem?.1 he'
      rw [Array.getElem?_toList, Array.getElem?_modify] at hm
      by_cases hjm : j = m
      · subst hjm
        rw [if_pos rfl] at hm
        obtain ⟨e0, _, rfl⟩ := Option.map_eq_some_iff.1 hm
        exact ⟨k, rfl⟩
      · rw [if_neg hjm] at hm
        exact h2 e' (List.mem_iff_getElem?.2 ⟨m, by simpa using hm⟩)
    · intro x
      rw [Array.toList_modify, findE_modify k x v _ rfl _ _ ⟨e, h7, h8⟩ h10]
      by_cases hx : x = k
      · simp [hx]
      · simp [hx, h3 x]

theorem wpList_update_imap {ops : Array Oper} {rest : List Oper} {o : Oper} {a : Act} {w : World} {Q : Exit → Act → World → Prop} (hgd : o.guard = none) (T : TypeId) (x y z : Operand) (ho : o.op = .mapUpdate T x y z) (M : Nat) (f : Int → Option Value) (h : IMap w M f)
    (hx : a.eval x = .map (some M)) (k : Int) (hy : a.eval y = .int .i64 k) (v : Value) (hz : a.eval z = v) (K E : TypeId) (hT : P.underlying T = some (.map K E)) (hK : P.underlying K = some (.int .i64))
    (hn : ∀ w', IMap w' M (fun x => if x = k then some v else f x) → But [M] w w' → wpList P ops Q rest (a.put o.dst undef) w') : wpList P ops Q (o :: rest) a w := by
  refine wpList_plain hgd fun K' hK' => ?_
  obtain ⟨w', h1, h2, h3⟩ := h.run_update T K E hT hK k v
  unfold Oper.wp
  simp [execOp, ho, hx, hy, hz, h1, Result.andThen]
  exact hK' _ _ (hn w' h2 h3)
end
end Go.Proofs.YthnpbopnpdlmnaaDoor
