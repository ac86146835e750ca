/- What adding the code of a tree does to a builder's list: the plain law. No program. -/
import Derived.Test.YtjjhdddlbgdkeaaDoorG05
namespace Go.Proofs.YtjjhdddlbgdkeaaDoor
open Go.RowKit

/-- From the list L (and the mark ov) to L' and ov', by code G of c instructions. -/
structure StR (c : Nat) (G : Nat → List Inst) (L : List Inst) (ov : Bool) (L' : List Inst) (ov' : Bool) : Prop where
  len : L.length ≤ L'.length
  full : ov' = true → L'.length = 4096
  same : ov = true → L' = L ∧ ov' = true
  fit : ov = false → L.length + c ≤ 4096 → L' = L ++ G L.length ∧ ov' = false
  over : ov = false → 4096 < L.length + c → ov' = true
theorem StR.trans {c d : Nat} {G H : Nat → List Inst} {L M N : List Inst} {a b e : Bool} (h : StR c G L a M b) (k : StR d H M b N e) (hG : ∀ n, (G n).length = c) : StR (c + d) (fun n => G n ++ H (n + c)) L a N e where
  len := Nat.le_trans h.len k.len
  full := k.full
  same := fun ha => by
    obtain ⟨h1, h2⟩ := h.same ha
    obtain ⟨k1, k2⟩ := k.same h2
    exact ⟨k1.trans h1, k2⟩
  fit := fun ha hc => by
    obtain ⟨h1, h2⟩ := h.fit ha (by omega)
    have hl : M.length = L.length + c := by rw [h1, List.length_append, hG]
    obtain ⟨k1, k2⟩ := k.fit h2 (by omega)
    refine ⟨?_, k2⟩
    rw [k1, hl, h1, List.append_assoc]
  over := fun ha hc => by
    by_cases h1 : L.length + c ≤ 4096
    · obtain ⟨h2, h3⟩ := h.fit ha h1
      have hl : M.length = L.length + c := by rw [h2, List.length_append, hG]
      exact k.over h3 (by omega)
    · exact (k.same (h.over ha (by omega))).2
theorem StR.none {L : List Inst} {ov : Bool} (h : ov = true → L.length = 4096) (hl : L.length ≤ 4096) : StR 0 (fun _ => []) L ov L ov :=
  ⟨Nat.le_refl _, h, fun e => ⟨rfl, e⟩, fun e _ => ⟨by simp, e⟩, fun _ hc => by omega⟩
theorem StR.add {L : List Inst} {ov : Bool} (i : Inst) (h : ov = true → L.length = 4096) (hl : L.length ≤ 4096) : StR 1 (fun _ => [i]) L ov (addL L i) (addO L ov) := by
  by_cases hf : 4096 ≤ L.length
  · have e1 : addL L i = L := if_pos hf
    have e2 : addO L ov = true := if_pos hf
    rw [e1, e2]
    exact ⟨Nat.le_refl _, fun _ => by omega, fun _ => ⟨rfl, rfl⟩, fun _ hc => by omega, fun _ _ => rfl⟩
  · have e1 : addL L i = L ++ [i] := if_neg hf
    have e2 : addO L ov = ov := if_neg hf
    rw [e1, e2]
    refine ⟨by simp, fun e => ?_, fun e => ?_, fun e _ => ⟨rfl, e⟩, fun e hc => ?_⟩
    · have := h e; omega
    · have := h e; omega
    · omega
/-- The alternatives but the last one, with jumps that are to be set; where the jumps are. -/
def Re.gpre : List Re → Nat → List Inst
  | [], _ => []
  | t :: ts, n => isplit (n + 1 : Nat) (n + t.csize + 2 : Nat) :: (t.gen (n + 1) ++ [ijump 0] ++ Re.gpre ts (n + t.csize + 2))
def Re.jpos : List Re → Nat → List Nat
  | [], _ => []
  | t :: ts, n => (n + 1 + t.csize) :: Re.jpos ts (n + t.csize + 2)
def Re.psize : List Re → Nat
  | [] => 0
  | t :: ts => t.csize + 2 + Re.psize ts
theorem Re.gpre_len : ∀ (ts : List Re) (n : Nat), (Re.gpre ts n).length = Re.psize ts
  | [], n => rfl
  | t :: ts, n => by rw [Re.gpre, Re.psize]; simp [Re.gen_len t (n + 1), Re.gpre_len ts]; omega
theorem Re.gpre_snoc : ∀ (ts : List Re) (t : Re) (n : Nat), Re.gpre (ts ++ [t]) n = Re.gpre ts n ++ (isplit (n + Re.psize ts + 1 : Nat) (n + Re.psize ts + t.csize + 2 : Nat) :: (t.gen (n + Re.psize ts + 1) ++ [ijump 0]))
  | [], t, n => by simp [Re.gpre, Re.psize]
  | a :: ts, t, n => by
    rw [List.cons_append, Re.gpre, Re.gpre_snoc ts t, Re.gpre, Re.psize]
    have e : n + a.csize + 2 + Re.psize ts = n + (a.csize + 2 + Re.psize ts) := by omega
    rw [e]
    simp
theorem Re.jpos_snoc : ∀ (ts : List Re) (t : Re) (n : Nat), Re.jpos (ts ++ [t]) n = Re.jpos ts n ++ [n + Re.psize ts + 1 + t.csize]
  | [], t, n => by simp [Re.jpos, Re.psize]
  | a :: ts, t, n => by
    rw [List.cons_append, Re.jpos, Re.jpos_snoc ts t, Re.jpos, Re.psize]
    have e : n + a.csize + 2 + Re.psize ts = n + (a.csize + 2 + Re.psize ts) := by omega
    rw [e, List.cons_append]
theorem Re.psize_snoc : ∀ (ts : List Re) (t : Re), Re.psize (ts ++ [t]) = Re.psize ts + t.csize + 2
  | [], t => by simp [Re.psize]
  | a :: ts, t => by rw [List.cons_append, Re.psize, Re.psize_snoc ts t, Re.psize]; omega
theorem Re.asize_last : ∀ (ts : List Re) (t : Re), Re.asize (ts ++ [t]) = Re.psize ts + t.csize
  | [], t => by simp [Re.asize, Re.psize]
  | a :: ts, t => by
    rw [List.cons_append, Re.asize, Re.asize_last ts t, Re.psize]
    have : (ts ++ [t]).isEmpty = false := by cases ts <;> rfl
    rw [this]
    simp
    omega
/-- All jumps set. -/
def setXs (L : List Inst) (J : List Nat) (v : Int) : List Inst := J.foldl (fun L j => setX L j v) L
theorem setX_app (A B : List Inst) (k : Nat) (v : Int) : setX (A ++ B) (A.length + k) v = A ++ setX B k v := by
  unfold setX
  rw [List.getElem?_append_right (by omega), Nat.add_sub_cancel_left]
  cases h : B[k]? with
  | none => rfl
  | some f => simp [List.set_append_right]
theorem setX_front (A B : List Inst) (k : Nat) (v : Int) (h : k < A.length) : setX (A ++ B) k v = setX A k v ++ B := by
  unfold setX
  rw [List.getElem?_append_left h, List.getElem?_eq_getElem h]
  simp [List.set_append_left, h]
theorem setXs_len (J : List Nat) (v : Int) : ∀ L : List Inst, (setXs L J v).length = L.length := by
  induction J with
  | nil => intro L; rfl
  | cons j J ih => intro L; show (setXs (setX L j v) J v).length = _; rw [ih, setX_len]
theorem Re.patched : ∀ (ts : List Re) (t : Re) (n fin : Nat) (A : List Inst), A.length = n → setXs (A ++ (Re.gpre ts n ++ t.gen (n + Re.psize ts))) (Re.jpos ts n) fin = A ++ Re.galt (ts ++ [t]) n fin
  | [], t, n, fin, A, h => by simp [setXs, Re.gpre, Re.jpos, Re.galt, Re.psize]
  | a :: ts, t, n, fin, A, h => by
    have he : (ts ++ [t]).isEmpty = false := by cases ts <;> rfl
    rw [List.cons_append, Re.galt, he, Re.gpre, Re.jpos, Re.psize]
    show setXs (setX _ (n + 1 + a.csize) fin) _ _ = _
    have hl := Re.gen_len a (n + 1)
    have e0 : A ++ (isplit (n + 1 : Nat) (n + a.csize + 2 : Nat) :: (a.gen (n + 1) ++ [ijump 0] ++ Re.gpre ts (n + a.csize + 2)) ++ t.gen (n + (a.csize + 2 + Re.psize ts)))
        = (A ++ (isplit (n + 1 : Nat) (n + a.csize + 2 : Nat) :: a.gen (n + 1))) ++ (ijump 0 :: (Re.gpre ts (n + a.csize + 2) ++ t.gen (n + a.csize + 2 + Re.psize ts))) := by
      rw [show n + (a.csize + 2 + Re.psize ts) = n + a.csize + 2 + Re.psize ts by omega]
      simp
    rw [e0]
    have hA : (A ++ (isplit (n + 1 : Nat) (n + a.csize + 2 : Nat) :: a.gen (n + 1))).length = n + 1 + a.csize := by simp [h, hl]; omega
    have e1 : setX ((A ++ (isplit (n + 1 : Nat) (n + a.csize + 2 : Nat) :: a.gen (n + 1))) ++ (ijump 0 :: (Re.gpre ts (n + a.csize + 2) ++ t.gen (n + a.csize + 2 + Re.psize ts)))) (n + 1 + a.csize) fin
        = (A ++ (isplit (n + 1 : Nat) (n + a.csize + 2 : Nat) :: a.gen (n + 1))) ++ setX (ijump 0 :: (Re.gpre ts (n + a.csize + 2) ++ t.gen (n + a.csize + 2 + Re.psize ts))) 0 fin := by
      have h9 := setX_app (A ++ (isplit (n + 1 : Nat) (n + a.csize + 2 : Nat) :: a.gen (n + 1))) (ijump 0 :: (Re.gpre ts (n + a.csize + 2) ++ t.gen (n + a.csize + 2 + Re.psize ts))) 0 fin
      rw [hA] at h9
      exact h9
    rw [e1]
    have e2 : setX (ijump 0 :: (Re.gpre ts (n + a.csize + 2) ++ t.gen (n + a.csize + 2 + Re.psize ts))) 0 fin = ijump fin :: (Re.gpre ts (n + a.csize + 2) ++ t.gen (n + a.csize + 2 + Re.psize ts)) := rfl
    rw [e2]
    have e3 := Re.patched ts t (n + a.csize + 2) fin ((A ++ (isplit (n + 1 : Nat) (n + a.csize + 2 : Nat) :: a.gen (n + 1))) ++ [ijump fin]) (by rw [List.length_append, hA]; simp; omega)
    rw [List.append_assoc _ [ijump fin] _] at e3
    rw [List.singleton_append] at e3
    rw [e3]
    simp
end Go.Proofs.YtjjhdddlbgdkeaaDoor

/- One alternative more: the plain law. No program. -/
namespace Go.Proofs.YtjjhdddlbgdkeaaDoor
open Go.RowKit

structure AltI (xs : List Re) (k : Nat) (L L' : List Inst) (ov' : Bool) (J : List Nat) : Prop where
  fit : L.length + Re.psize (xs.take k) ≤ 4096 → L' = L ++ Re.gpre (xs.take k) L.length ∧ ov' = false ∧ J = Re.jpos (xs.take k) L.length
  over : 4096 < L.length + Re.psize (xs.take k) → ov' = true
  full : ov' = true → L'.length = 4096
  jlt : ∀ j, j ∈ J → j < L'.length
  len : L.length ≤ L'.length
  jl : J.length = k
theorem setY_app (A B : List Inst) (k : Nat) (v : Int) : setY (A ++ B) (A.length + k) v = A ++ setY B k v := by
  unfold setY
  rw [List.getElem?_append_right (by omega), Nat.add_sub_cancel_left]
  cases h : B[k]? with
  | none => rfl
  | some f => simp [List.set_append_right]
theorem splitL_fit {L : List Inst} (h : L.length < 4096) : splitL L = L ++ [isplit (L.length + 1 : Nat) 0] ∧ addK L = L.length := by
  have e1 : addK L = L.length := if_neg (by omega)
  have e2 : addL L (isplit 0 0) = L ++ [isplit 0 0] := if_neg (by omega)
  refine ⟨?_, e1⟩
  unfold splitL
  rw [e1, e2]
  have := setX_app L [isplit 0 0] 0 ((L.length : Nat) + 1 : Int)
  rw [Nat.add_zero] at this
  rw [this]
  rfl
theorem alt_step {xs : List Re} {k : Nat} {L L' L2 : List Inst} {ov' o2 : Bool} {J : List Nat} (h : AltI xs k L L' ov' J) (hk : k < xs.length) (hl : L'.length ≤ 4096) (ht : StR xs[k].csize xs[k].gen (splitL L') (addO L' ov') L2 o2) (h2 : L2.length ≤ 4096) :
    AltI xs (k + 1) L (setY (addL L2 (ijump 0)) (addK L') ((addL L2 (ijump 0)).length : Nat)) (addO L2 o2) (J ++ [addK L2]) := by
  have htk : xs.take (k + 1) = xs.take k ++ [xs[k]] := by rw [List.take_add_one, List.getElem?_eq_getElem hk]; rfl
  have hps : Re.psize (xs.take (k + 1)) = Re.psize (xs.take k) + xs[k].csize + 2 := by rw [htk, Re.psize_snoc]
  have hal := addL_len L2 (ijump 0) h2
  have hs1 : (splitL L').length ≤ L2.length := ht.len
  have hs2 := splitL_len L'
  have hs3 := addL_len L' (isplit 0 0) hl
  have hge : L'.length ≤ (addL L' (isplit 0 0)).length := by unfold addL; split <;> simp
  have hge2 : L2.length ≤ (addL L2 (ijump 0)).length := by unfold addL; split <;> simp
  have hfull : addO L2 o2 = true → (addL L2 (ijump 0)).length = 4096 := fun e => by
    unfold addO at e
    unfold addL
    by_cases hf : 4096 ≤ L2.length
    · rw [if_pos hf]; omega
    · rw [if_neg hf] at e
      have := ht.full e
      omega
  refine ⟨fun hc => ?_, fun hc => ?_, fun e => by rw [setY_len]; exact hfull e, fun j hj => ?_, by rw [setY_len]; have := h.len; omega, by rw [List.length_append, h.jl]; rfl⟩
  · rw [hps] at hc
    obtain ⟨f1, f2, f3⟩ := h.fit (by omega)
    have hm : L'.length = L.length + Re.psize (xs.take k) := by rw [f1, List.length_append, Re.gpre_len]
    obtain ⟨g1, g2⟩ := splitL_fit (L := L') (by omega)
    have g3 : addO L' ov' = false := by unfold addO; rw [if_neg (by omega)]; exact f2
    obtain ⟨t1, t2⟩ := ht.fit g3 (by rw [g1]; simp; omega)
    have t3 : (splitL L').length = L'.length + 1 := by rw [g1]; simp
    have hg := Re.gen_len xs[k] (L'.length + 1)
    rw [t3] at t1
    have t4 : L2.length = L'.length + 1 + xs[k].csize := by rw [t1, List.length_append, t3, hg]
    have a1 : addL L2 (ijump 0) = L2 ++ [ijump 0] := if_neg (by omega)
    have a2 : addK L2 = L2.length := if_neg (by omega)
    have a3 : addO L2 o2 = false := by unfold addO; rw [if_neg (by omega)]; exact t2
    refine ⟨?_, a3, ?_⟩
    · rw [a1, g2, htk, Re.gpre_snoc, t1, g1, ← hm]
      have e0 : L' ++ [isplit (L'.length + 1 : Nat) 0] ++ xs[k].gen (L'.length + 1) ++ [ijump 0] = L' ++ (isplit (L'.length + 1 : Nat) 0 :: (xs[k].gen (L'.length + 1) ++ [ijump 0])) := by simp
      rw [e0]
      have e1 : ∀ v : Int, setY (L' ++ (isplit (L'.length + 1 : Nat) 0 :: (xs[k].gen (L'.length + 1) ++ [ijump 0]))) L'.length v = L' ++ setY (isplit (L'.length + 1 : Nat) 0 :: (xs[k].gen (L'.length + 1) ++ [ijump 0])) 0 v := fun v => setY_app L' _ 0 v
      rw [e1]
      have e2 : ((L' ++ (isplit (L'.length + 1 : Nat) 0 :: (xs[k].gen (L'.length + 1) ++ [ijump 0]))).length : Nat) = L'.length + xs[k].csize + 2 := by simp [hg]; omega
      rw [e2, ← List.append_assoc, ← f1]
      rfl
    · rw [a2, htk, Re.jpos_snoc, f3, t4, hm]
  · rw [hps] at hc
    have hmono : addO L' ov' = true → addO L2 o2 = true := fun e => by
      have t1 := (ht.same e).2
      have t2 := ht.full t1
      unfold addO; rw [if_pos (by omega)]
    by_cases hp : L.length + Re.psize (xs.take k) ≤ 4096
    · obtain ⟨f1, f2, f3⟩ := h.fit hp
      have hm : L'.length = L.length + Re.psize (xs.take k) := by rw [f1, List.length_append, Re.gpre_len]
      by_cases hf : 4096 ≤ L'.length
      · exact hmono (if_pos hf)
      · have g3 : addO L' ov' = false := by unfold addO; rw [if_neg hf]; exact f2
        obtain ⟨g1, g2⟩ := splitL_fit (L := L') (by omega)
        have t3 : (splitL L').length = L'.length + 1 := by rw [g1]; simp
        by_cases hq : (splitL L').length + xs[k].csize ≤ 4096
        · obtain ⟨t1, t2⟩ := ht.fit g3 hq
          have hg := Re.gen_len xs[k] (splitL L').length
          have t4 : L2.length = L'.length + 1 + xs[k].csize := by rw [t1, List.length_append, hg, t3]
          unfold addO; rw [if_pos (by omega)]
        · have t1 := ht.over g3 (by omega)
          have t2 := ht.full t1
          unfold addO; rw [if_pos (by omega)]
    · have o1 := h.over (by omega)
      have o2' := h.full o1
      exact hmono (if_pos (by omega))
  · rw [setY_len]
    rcases List.mem_append.1 hj with hj | hj
    · have := h.jlt j hj; omega
    · rw [List.mem_singleton.1 hj]; exact hal.1
/-- Behind the last alternative, with all jumps set. -/
theorem alt_end {xs : List Re} {k : Nat} {L L' L2 : List Inst} {ov' o2 : Bool} {J : List Nat} (h : AltI xs k L L' ov' J) (hk : k + 1 = xs.length) (ht : StR (xs[k]'(by omega)).csize (xs[k]'(by omega)).gen L' ov' L2 o2) (_hl : L.length ≤ 4096) :
    StR (Re.asize xs) (fun n => Re.galt xs n (n + Re.asize xs)) L false (setXs L2 J (L2.length : Nat)) o2 := by
  have hxs : xs = xs.take k ++ [xs[k]'(by omega)] := by
    have := List.take_append_drop k xs
    rw [List.drop_eq_getElem_cons (by omega), List.drop_eq_nil_of_le (by omega)] at this
    exact this.symm
  have has : Re.asize xs = Re.psize (xs.take k) + (xs[k]'(by omega)).csize := by
    have := Re.asize_last (xs.take k) (xs[k]'(by omega))
    rw [← hxs] at this
    exact this
  refine ⟨by rw [setXs_len]; have := h.len; have := ht.len; omega, fun e => by rw [setXs_len]; exact ht.full e, fun e => (by cases e), fun _ hc => ?_, fun _ hc => ?_⟩
  · rw [has] at hc
    obtain ⟨f1, f2, f3⟩ := h.fit (by omega)
    have hm : L'.length = L.length + Re.psize (xs.take k) := by rw [f1, List.length_append, Re.gpre_len]
    obtain ⟨t1, t2⟩ := ht.fit f2 (by omega)
    have hg := Re.gen_len (xs[k]'(by omega)) L'.length
    have hl2 : L2.length = L.length + Re.asize xs := by rw [t1, List.length_append, hg, hm, has]; omega
    refine ⟨?_, t2⟩
    rw [hl2, t1, f3, hm, f1, List.append_assoc]
    have := Re.patched (xs.take k) (xs[k]'(by omega)) L.length (L.length + Re.asize xs) L rfl
    rw [← hxs] at this
    exact this
  · rw [has] at hc
    by_cases hp : L.length + Re.psize (xs.take k) ≤ 4096
    · obtain ⟨f1, f2, f3⟩ := h.fit hp
      have hm : L'.length = L.length + Re.psize (xs.take k) := by rw [f1, List.length_append, Re.gpre_len]
      exact ht.over f2 (by omega)
    · exact (ht.same (h.over (by omega))).2
end Go.Proofs.YtjjhdddlbgdkeaaDoor

/- The code of a repetition: the plain law. No program. -/
namespace Go.Proofs.YtjjhdddlbgdkeaaDoor
open Go.RowKit

theorem Re.rep1 (p : Pay) (x0 : Re) (ho : p.op = 5) (hl : p.lo = 1) : Re.csize (.mk p [x0]) = x0.csize + 1 ∧ Re.gen (.mk p [x0]) = fun n => x0.gen n ++ [isplit n (n + x0.csize + 1 : Nat)] := by
  constructor
  · rw [Re.csize, if_neg (by omega), if_neg (by omega), if_pos ho, if_pos hl]; simp [Re.csizes]
  · funext n
    rw [Re.gen, if_neg (by omega), if_neg (by omega), if_neg (by omega), if_neg (by omega), if_pos ho, if_pos hl]; simp [Re.gens, Re.csizes]
theorem Re.rep2 (p : Pay) (x0 : Re) (ho : p.op = 5) (hl : p.lo ≠ 1) (hh : 0 ≤ p.hi) : Re.csize (.mk p [x0]) = x0.csize + 1 ∧ Re.gen (.mk p [x0]) = fun n => isplit (n + 1 : Nat) (n + 1 + x0.csize : Nat) :: x0.gen (n + 1) := by
  constructor
  · rw [Re.csize, if_neg (by omega), if_neg (by omega), if_pos ho, if_neg hl, if_neg (by omega)]; simp [Re.csizes]
  · funext n
    rw [Re.gen, if_neg (by omega), if_neg (by omega), if_neg (by omega), if_neg (by omega), if_pos ho, if_neg hl, if_neg (by omega), if_neg (by omega)]; simp [Re.gens, Re.csizes]
theorem Re.rep3 (p : Pay) (x0 : Re) (ho : p.op = 5) (hl : p.lo ≠ 1) (hh : p.hi < 0) : Re.csize (.mk p [x0]) = x0.csize + 2 ∧ Re.gen (.mk p [x0]) = fun n => isplit (n + 1 : Nat) (n + 2 + x0.csize : Nat) :: (x0.gen (n + 1) ++ [ijump n]) := by
  constructor
  · rw [Re.csize, if_neg (by omega), if_neg (by omega), if_pos ho, if_neg hl, if_pos hh]; simp [Re.csizes]
  · funext n
    rw [Re.gen, if_neg (by omega), if_neg (by omega), if_neg (by omega), if_neg (by omega), if_pos ho, if_neg hl, if_pos hh, if_pos hh]
    simp only [Re.gens, Re.csizes, List.append_nil, Nat.add_zero]
    rw [show n + 1 + x0.csize + 1 = n + 2 + x0.csize by omega]
theorem rep_one {c : Nat} {G : Nat → List Inst} {L L1 : List Inst} {o1 : Bool} (hG : ∀ n, (G n).length = c) (h : StR c G L false L1 o1) (hl : L1.length ≤ 4096) :
    StR (c + 1) (fun n => G n ++ [isplit n (n + c + 1 : Nat)]) L false (setY (addL L1 (isplit (L.length : Nat) 0)) (addK L1) ((addK L1 : Nat) + 1)) (addO L1 o1) := by
  have hge : L1.length ≤ (addL L1 (isplit (L.length : Nat) 0)).length := by unfold addL; split <;> simp
  refine ⟨by rw [setY_len]; have := h.len; omega, fun e => ?_, fun e => (by cases e), fun _ hc => ?_, fun _ hc => ?_⟩
  · rw [setY_len]
    unfold addO at e
    unfold addL
    by_cases hf : 4096 ≤ L1.length
    · rw [if_pos hf]; omega
    · rw [if_neg hf] at e
      have := h.full e
      omega
  · obtain ⟨h1, h2⟩ := h.fit rfl (by omega)
    have hlen : L1.length = L.length + c := by rw [h1, List.length_append, hG]
    have e1 : addL L1 (isplit (L.length : Nat) 0) = L1 ++ [isplit (L.length : Nat) 0] := if_neg (by omega)
    have e2 : addK L1 = L1.length := if_neg (by omega)
    have e3 : addO L1 o1 = o1 := if_neg (by omega)
    rw [e1, e2, e3]
    refine ⟨?_, h2⟩
    have e4 : setY (L1 ++ [isplit (L.length : Nat) 0]) L1.length ((L1.length : Nat) + 1) = L1 ++ setY [isplit (L.length : Nat) 0] 0 ((L1.length : Nat) + 1) := setY_app L1 _ 0 _
    rw [e4]
    have e5 : setY [isplit (L.length : Nat) 0] 0 ((L1.length : Nat) + 1) = [isplit (L.length : Nat) (L.length + c + 1 : Nat)] := by
      rw [hlen]; rfl
    rw [e5, ← List.append_assoc, ← h1]
  · by_cases hf : L.length + c ≤ 4096
    · obtain ⟨h1, h2⟩ := h.fit rfl hf
      have hlen : L1.length = L.length + c := by rw [h1, List.length_append, hG]
      unfold addO; rw [if_pos (by omega)]
    · have h1 := h.over rfl (by omega)
      have h2 := h.full h1
      unfold addO; rw [if_pos (by omega)]
theorem addO_up {L : List Inst} {o : Bool} (h : o = true → L.length = 4096) (e : o = true) : addO L o = true := by unfold addO; rw [if_pos (by have := h e; omega)]
theorem split_full {L : List Inst} (hl : L.length ≤ 4096) (e : addO L false = true) : (splitL L).length = 4096 := by
  rw [splitL_len]
  unfold addO at e
  unfold addL
  by_cases hf : 4096 ≤ L.length
  · rw [if_pos hf]; omega
  · rw [if_neg hf] at e; cases e
theorem rep_opt {c : Nat} {G : Nat → List Inst} {L L2 : List Inst} {o2 : Bool} (hG : ∀ n, (G n).length = c) (h : StR c G (splitL L) (addO L false) L2 o2) (hl : L.length ≤ 4096) :
    StR (c + 1) (fun n => isplit (n + 1 : Nat) (n + 1 + c : Nat) :: G (n + 1)) L false (setY L2 (addK L) (L2.length : Nat)) o2 := by
  have hs := splitL_len L
  have hge : L.length ≤ (addL L (isplit 0 0)).length := by unfold addL; split <;> simp
  refine ⟨by rw [setY_len]; have := h.len; omega, fun e => by rw [setY_len]; exact h.full e, fun e => (by cases e), fun _ hc => ?_, fun _ hc => ?_⟩
  · obtain ⟨s1, s2⟩ := splitL_fit (L := L) (by omega)
    have s3 : addO L false = false := if_neg (by omega)
    have s4 : (splitL L).length = L.length + 1 := by rw [s1]; simp
    obtain ⟨h1, h2⟩ := h.fit s3 (by omega)
    refine ⟨?_, h2⟩
    have hlen : L2.length = L.length + 1 + c := by rw [h1, List.length_append, hG, s4]
    rw [s2, h1, s4, s1]
    have e4 : ∀ v, setY (L ++ (isplit (L.length + 1 : Nat) 0 :: G (L.length + 1))) L.length v = L ++ setY (isplit (L.length + 1 : Nat) 0 :: G (L.length + 1)) 0 v := fun v => setY_app L _ 0 v
    rw [List.append_assoc, List.singleton_append, e4]
    have e5 : (L ++ (isplit (L.length + 1 : Nat) 0 :: G (L.length + 1))).length = L.length + 1 + c := by simp [hG]; omega
    rw [e5]
    rfl
  · by_cases hf : 4096 ≤ L.length
    · exact (h.same (if_pos hf)).2
    · obtain ⟨s1, s2⟩ := splitL_fit (L := L) (by omega)
      have s3 : addO L false = false := if_neg (by omega)
      have s4 : (splitL L).length = L.length + 1 := by rw [s1]; simp
      exact h.over s3 (by omega)
theorem rep_star {c : Nat} {G : Nat → List Inst} {L L2 : List Inst} {o2 : Bool} (hG : ∀ n, (G n).length = c) (h : StR c G (splitL L) (addO L false) L2 o2) (hl : L.length ≤ 4096) (hl2 : L2.length ≤ 4096) :
    StR (c + 2) (fun n => isplit (n + 1 : Nat) (n + 2 + c : Nat) :: (G (n + 1) ++ [ijump n])) L false (setY (addL L2 (ijump (addK L : Nat))) (addK L) ((addL L2 (ijump (addK L : Nat))).length : Nat)) (addO L2 o2) := by
  have hs := splitL_len L
  have hge : L.length ≤ (addL L (isplit 0 0)).length := by unfold addL; split <;> simp
  have hge2 : L2.length ≤ (addL L2 (ijump (addK L : Nat))).length := by unfold addL; split <;> simp
  refine ⟨by rw [setY_len]; have := h.len; omega, fun e => ?_, fun e => (by cases e), fun _ hc => ?_, fun _ hc => ?_⟩
  · rw [setY_len]
    unfold addO at e
    unfold addL
    by_cases hf : 4096 ≤ L2.length
    · rw [if_pos hf]; omega
    · rw [if_neg hf] at e
      have := h.full e
      omega
  · obtain ⟨s1, s2⟩ := splitL_fit (L := L) (by omega)
    have s3 : addO L false = false := if_neg (by omega)
    have s4 : (splitL L).length = L.length + 1 := by rw [s1]; simp
    obtain ⟨h1, h2⟩ := h.fit s3 (by omega)
    have hlen : L2.length = L.length + 1 + c := by rw [h1, List.length_append, hG, s4]
    have e1 : addL L2 (ijump (addK L : Nat)) = L2 ++ [ijump (addK L : Nat)] := if_neg (by omega)
    have e3 : addO L2 o2 = o2 := if_neg (by omega)
    rw [e1, e3]
    refine ⟨?_, h2⟩
    rw [s2, h1, s4, s1]
    have e4 : ∀ v, setY (L ++ (isplit (L.length + 1 : Nat) 0 :: (G (L.length + 1) ++ [ijump (L.length : Nat)]))) L.length v = L ++ setY (isplit (L.length + 1 : Nat) 0 :: (G (L.length + 1) ++ [ijump (L.length : Nat)])) 0 v := fun v => setY_app L _ 0 v
    have e6 : L ++ [isplit (L.length + 1 : Nat) 0] ++ G (L.length + 1) ++ [ijump (L.length : Nat)] = L ++ (isplit (L.length + 1 : Nat) 0 :: (G (L.length + 1) ++ [ijump (L.length : Nat)])) := by simp
    rw [e6, e4]
    have e5 : (L ++ (isplit (L.length + 1 : Nat) 0 :: (G (L.length + 1) ++ [ijump (L.length : Nat)]))).length = L.length + 2 + c := by simp [hG]; omega
    rw [e5]
    rfl
  · by_cases hf : 4096 ≤ L.length
    · exact addO_up h.full (h.same (if_pos hf)).2
    · obtain ⟨s1, s2⟩ := splitL_fit (L := L) (by omega)
      have s3 : addO L false = false := if_neg (by omega)
      have s4 : (splitL L).length = L.length + 1 := by rw [s1]; simp
      by_cases hq : L.length + 1 + c ≤ 4096
      · obtain ⟨h1, h2⟩ := h.fit s3 (by omega)
        have hlen : L2.length = L.length + 1 + c := by rw [h1, List.length_append, hG, s4]
        unfold addO; rw [if_pos (by omega)]
      · exact addO_up h.full (h.over s3 (by omega))
end Go.Proofs.YtjjhdddlbgdkeaaDoor
