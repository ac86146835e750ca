/- What adding the code of a tree does to a builder's list: the plain law. No program. -/
import Derived.Test.YthnpbopnpdlmnaaX03
import Derived.Test.YthnpbopnpdlmnaaX01
import Derived.MapKept
import Derived.Deep.MidRow
import Derived.Laws.MakeOwn
import Derived.Deep.DeepCutAuto
import Derived.Deep.CutBlock
import Derived.ChangeKeysEq
import Derived.Test.YthnpbopnpdlmnaaX02
namespace Go.Proofs.Ythnpbopnpdlmnaa
open Go.RowKit

def Re.gpre : List Re → Nat → List Inst
  | [], _ => []
  | t :: ts, n => isplit (n + 1 : Nat) (n + t.csize + 2 : Nat) :: (t.gen (n + 1) ++ [ijump 0] ++ Re.gpre ts (n + t.csize + 2))
def Re.jpos : List Re → Nat → List Nat
  | [], _ => []
  | t :: ts, n => (n + 1 + t.csize) :: Re.jpos ts (n + t.csize + 2)
def Re.psize : List Re → Nat
  | [] => 0
  | t :: ts => t.csize + 2 + Re.psize ts
theorem Re.gpre_len : ∀ (ts : List Re) (n : Nat), (Re.gpre ts n).length = Re.psize ts
  | [], n => rfl
  | t :: ts, n => by rw [Re.gpre, Re.psize]; simp [Re.gen_len t (n + 1), Re.gpre_len ts]; omega
theorem Re.gpre_snoc : ∀ (ts : List Re) (t : Re) (n : Nat), Re.gpre (ts ++ [t]) n = Re.gpre ts n ++ (isplit (n + Re.psize ts + 1 : Nat) (n + Re.psize ts + t.csize + 2 : Nat) :: (t.gen (n + Re.psize ts + 1) ++ [ijump 0]))
  | [], t, n => by simp [Re.gpre, Re.psize]
  | a :: ts, t, n => by
    rw [List.cons_append, Re.gpre, Re.gpre_snoc ts t, Re.gpre, Re.psize]
    have e : n + a.csize + 2 + Re.psize ts = n + (a.csize + 2 + Re.psize ts) := by omega
    rw [e]
    simp
theorem Re.jpos_snoc : ∀ (ts : List Re) (t : Re) (n : Nat), Re.jpos (ts ++ [t]) n = Re.jpos ts n ++ [n + Re.psize ts + 1 + t.csize]
  | [], t, n => by simp [Re.jpos, Re.psize]
  | a :: ts, t, n => by
    rw [List.cons_append, Re.jpos, Re.jpos_snoc ts t, Re.jpos, Re.psize]
    have e : n + a.csize + 2 + Re.psize ts = n + (a.csize + 2 + Re.psize ts) := by omega
    rw [e, List.cons_append]
theorem Re.asize_last : ∀ (ts : List Re) (t : Re), Re.asize (ts ++ [t]) = Re.psize ts + t.csize
  | [], t => by simp [Re.asize, Re.psize]
  | a :: ts, t => by
    rw [List.cons_append, Re.asize, Re.asize_last ts t, Re.psize]
    have : (ts ++ [t]).isEmpty = false := by cases ts <;> rfl
    rw [this]
    simp
    omega
def setXs (L : List Inst) (J : List Nat) (v : Int) : List Inst := J.foldl (fun L j => setX L j v) L
theorem setX_app (A B : List Inst) (k : Nat) (v : Int) : setX (A ++ B) (A.length + k) v = A ++ setX B k v := by
  unfold setX
  rw [List.getElem?_append_right (by omega), Nat.add_sub_cancel_left]
  cases h : B[k]? with
  | none => rfl
  | some f => simp [List.set_append_right]
theorem Re.patched : ∀ (ts : List Re) (t : Re) (n fin : Nat) (A : List Inst), A.length = n → setXs (A ++ (Re.gpre ts n ++ t.gen (n + Re.psize ts))) (Re.jpos ts n) fin = A ++ Re.galt (ts ++ [t]) n fin
  | [], t, n, fin, A, h => by simp [setXs, Re.gpre, Re.jpos, Re.galt, Re.psize]
  | a :: ts, t, n, fin, A, h => by
    have he : (ts ++ [t]).isEmpty = false := by cases ts <;> rfl
    rw [List.cons_append, Re.galt, he, Re.gpre, Re.jpos, Re.psize]
    show setXs (setX _ (n + 1 + a.csize) fin) _ _ = _
    have hl := Re.gen_len a (n + 1)
    have e0 : A ++ (isplit (n + 1 : Nat) (n + a.csize + 2 : Nat) :: (a.gen (n + 1) ++ [ijump 0] ++ Re.gpre ts (n + a.csize + 2)) ++ t.gen (n + (a.csize + 2 + Re.psize ts)))
        = (A ++ (isplit (n + 1 : Nat) (n + a.csize + 2 : Nat) :: a.gen (n + 1))) ++ (ijump 0 :: (Re.gpre ts (n + a.csize + 2) ++ t.gen (n + a.csize + 2 + Re.psize ts))) := by
      rw [show n + (a.csize + 2 + Re.psize ts) = n + a.csize + 2 + Re.psize ts by omega]
      simp
    rw [e0]
    have hA : (A ++ (isplit (n + 1 : Nat) (n + a.csize + 2 : Nat) :: a.gen (n + 1))).length = n + 1 + a.csize := by simp [h, hl]; omega
    have e1 : setX ((A ++ (isplit (n + 1 : Nat) (n + a.csize + 2 : Nat) :: a.gen (n + 1))) ++ (ijump 0 :: (Re.gpre ts (n + a.csize + 2) ++ t.gen (n + a.csize + 2 + Re.psize ts)))) (n + 1 + a.csize) fin
        = (A ++ (isplit (n + 1 : Nat) (n + a.csize + 2 : Nat) :: a.gen (n + 1))) ++ setX (ijump 0 :: (Re.gpre ts (n + a.csize + 2) ++ t.gen (n + a.csize + 2 + Re.psize ts))) 0 fin := by
      have h9 := setX_app (A ++ (isplit (n + 1 : Nat) (n + a.csize + 2 : Nat) :: a.gen (n + 1))) (ijump 0 :: (Re.gpre ts (n + a.csize + 2) ++ t.gen (n + a.csize + 2 + Re.psize ts))) 0 fin
      rw [hA] at h9
      exact h9
    rw [e1]
    have e2 : setX (ijump 0 :: (Re.gpre ts (n + a.csize + 2) ++ t.gen (n + a.csize + 2 + Re.psize ts))) 0 fin = ijump fin :: (Re.gpre ts (n + a.csize + 2) ++ t.gen (n + a.csize + 2 + Re.psize ts)) := rfl
    rw [e2]
    have e3 := Re.patched ts t (n + a.csize + 2) fin ((A ++ (isplit (n + 1 : Nat) (n + a.csize + 2 : Nat) :: a.gen (n + 1))) ++ [ijump fin]) (by rw [List.length_append, hA]; simp; omega)
    rw [List.append_assoc _ [ijump fin] _] at e3
    rw [List.singleton_append] at e3
    rw [e3]
    simp
end Go.Proofs.Ythnpbopnpdlmnaa

/- One alternative more: the plain law. No program. -/
namespace Go.Proofs.Ythnpbopnpdlmnaa
open Go.RowKit

structure AltI (xs : List Re) (k : Nat) (L L' : List Inst) (ov' : Bool) (J : List Nat) : Prop where
  fit : L.length + Re.psize (xs.take k) ≤ 4096 → L' = L ++ Re.gpre (xs.take k) L.length ∧ ov' = false ∧ J = Re.jpos (xs.take k) L.length
  over : 4096 < L.length + Re.psize (xs.take k) → ov' = true
  full : ov' = true → L'.length = 4096
  jlt : ∀ j, j ∈ J → j < L'.length
  len : L.length ≤ L'.length
  jl : J.length = k
end Go.Proofs.Ythnpbopnpdlmnaa

/- The code of a repetition: the plain law. No program. -/
namespace Go.Proofs.Ythnpbopnpdlmnaa
open Go.RowKit

theorem Re.rep1 (p : Pay) (x0 : Re) (ho : p.op = 5) (hl : p.lo = 1) : Re.csize (.mk p [x0]) = x0.csize + 1 ∧ Re.gen (.mk p [x0]) = fun n => x0.gen n ++ [isplit n (n + x0.csize + 1 : Nat)] := by
  constructor
  · rw [Re.csize, if_neg (by omega), if_neg (by omega), if_pos ho, if_pos hl]; simp [Re.csizes]
  · funext n
    rw [Re.gen, if_neg (by omega), if_neg (by omega), if_neg (by omega), if_neg (by omega), if_pos ho, if_pos hl]; simp [Re.gens, Re.csizes]
theorem Re.rep2 (p : Pay) (x0 : Re) (ho : p.op = 5) (hl : p.lo ≠ 1) (hh : 0 ≤ p.hi) : Re.csize (.mk p [x0]) = x0.csize + 1 ∧ Re.gen (.mk p [x0]) = fun n => isplit (n + 1 : Nat) (n + 1 + x0.csize : Nat) :: x0.gen (n + 1) := by
  constructor
  · rw [Re.csize, if_neg (by omega), if_neg (by omega), if_pos ho, if_neg hl, if_neg (by omega)]; simp [Re.csizes]
  · funext n
    rw [Re.gen, if_neg (by omega), if_neg (by omega), if_neg (by omega), if_neg (by omega), if_pos ho, if_neg hl, if_neg (by omega), if_neg (by omega)]; simp [Re.gens, Re.csizes]
theorem Re.rep3 (p : Pay) (x0 : Re) (ho : p.op = 5) (hl : p.lo ≠ 1) (hh : p.hi < 0) : Re.csize (.mk p [x0]) = x0.csize + 2 ∧ Re.gen (.mk p [x0]) = fun n => isplit (n + 1 : Nat) (n + 2 + x0.csize : Nat) :: (x0.gen (n + 1) ++ [ijump n]) := by
  constructor
  · rw [Re.csize, if_neg (by omega), if_neg (by omega), if_pos ho, if_neg hl, if_pos hh]; simp [Re.csizes]
  · funext n
    rw [Re.gen, if_neg (by omega), if_neg (by omega), if_neg (by omega), if_neg (by omega), if_pos ho, if_neg hl, if_pos hh, if_pos hh]
    simp only [Re.gens, Re.csizes, List.append_nil, Nat.add_zero]
    rw [show n + 1 + x0.csize + 1 = n + 2 + x0.csize by omega]
end Go.Proofs.Ythnpbopnpdlmnaa

/- Maps with int keys: what a look-up gives, and what a store leaves. Nothing here speaks of the program. -/
namespace Go.Proofs.Ythnpbopnpdlmnaa
open Go.RowKit

def keyIs (k : Int) (e : MapEntry) : Bool := match e.key with | .int .i64 k' => k == k' | _ => false
def findE (k : Int) : List MapEntry → Option Value
  | [] => none
  | e :: es => if keyIs k e then some e.val else findE k es
def IMap (w : World) (M : Nat) (f : Int → Option Value) : Prop :=
  ∃ es clock, w.heap[M]? = some (.map es clock) ∧ (∀ e, e ∈ es.toList → ∃ k, e.key = .int .i64 k) ∧ ∀ k, f k = findE k es.toList

section
variable {P : Program}
end
end Go.Proofs.Ythnpbopnpdlmnaa

/- Trees that a call builds: what is read of a tree whatever the other blocks are; slices of trees of the call's own. -/
namespace Go.Proofs.Ythnpbopnpdlmnaa
open Go.RowKit

def Re.InS (S : Nat → Prop) (w : World) (t : Re) (cs : List Value) : Prop := ∀ x : World, w.heap.size ≤ x.heap.size → (∀ k, S k → k < w.heap.size → x.heap[k]? = w.heap[k]?) → t.In x cs

theorem Re.InS.self {S : Nat → Prop} {w : World} {t : Re} {cs : List Value} (h : t.InS S w cs) : t.In w cs := h w (Nat.le_refl _) fun _ _ _ => rfl
theorem Re.InS.step {S S' : Nat → Prop} {w w' : World} {t : Re} {cs : List Value} (h : t.InS S w cs) (hs : w.heap.size ≤ w'.heap.size) (hk : ∀ k, S k → k < w.heap.size → S' k ∧ w'.heap[k]? = w.heap[k]?) : t.InS S' w' cs :=
  fun x h1 h2 => h x (Nat.le_trans hs h1) fun k h3 h4 => (h2 k (hk k h3 h4).1 (Nat.lt_of_lt_of_le h4 hs)).trans (hk k h3 h4).2
theorem Re.InS.lim {S : Nat → Prop} {w : World} {t : Re} {cs : List Value} (h : t.InS S w cs) : t.InS (fun k => S k ∧ k < w.heap.size) w cs := h.step (Nat.le_refl _) fun _ hk hl => ⟨⟨hk, hl⟩, rfl⟩
theorem Re.InS.mono {S S' : Nat → Prop} {w : World} {t : Re} {cs : List Value} (h : t.InS S w cs) (hs : ∀ k, S k → S' k) : t.InS S' w cs := h.step (Nat.le_refl _) fun k hk _ => ⟨hs k hk, rfl⟩
theorem Re.InS.below {S : Nat → Prop} {w w' : World} {t : Re} {cs : List Value} (h : t.InS S w cs) (hb : Below w.heap.size w w') : t.InS S w' cs := h.step hb.size fun k hS hk => ⟨hS, hb.block k hk⟩
theorem Re.InS.but {S : Nat → Prop} {Bs : List Nat} {w w' : World} {t : Re} {cs : List Value} (h : t.InS S w cs) (hb : But Bs w w') (hS : ∀ k, S k → k ∉ Bs) : t.InS S w' cs := h.step hb.size fun k hk hl => ⟨hk, hb.block k hl (hS k hk)⟩

def OwnRes (w : World) (base : Nat) (S : Nat → Prop) (v : Value) (L : List (Re × List Value)) : Prop :=
  w.ownsRow base 28 9 v L.length (L.flatMap Prod.snd) ∧ ∀ e, e ∈ L → e.1.InS (fun k => S k ∧ v.ownBlock ≠ some k) w e.2

theorem OwnRes.nil (w : World) (base : Nat) (S : Nat → Prop) : OwnRes w base S (.slice none 0 0) [] := ⟨World.ownsRow_nil _ _ _ _, fun _ h => by cases h⟩
theorem OwnRes.lt {w : World} {base : Nat} {S : Nat → Prop} {v : Value} {L : List (Re × List Value)} (h : OwnRes w base S v L) : ∀ g, v.ownBlock = some g → base ≤ g ∧ g < w.heap.size := World.ownsRow.lt h.1
theorem OwnRes.below {w w' : World} {base : Nat} {S : Nat → Prop} {v : Value} {L : List (Re × List Value)} (h : OwnRes w base S v L) (hb : Below w.heap.size w w') : OwnRes w' base S v L :=
  ⟨World.ownsRow.kept h.1 (row := none) ⟨hb.os, hb.tape, hb.output, hb.size, fun j hj _ => hb.block j hj⟩ (by
    cases hv : v.ownBlock with
    | none => exact .inl rfl
    | some g => exact .inr (fun e => by cases e)), fun e he => (h.2 e he).below hb⟩
theorem OwnRes.but {w w' : World} {base M : Nat} {S : Nat → Prop} {v : Value} {L : List (Re × List Value)} (h : OwnRes w base S v L) (hb : But [M] w w') (hv : ∀ g, v.ownBlock = some g → g ≠ M) (hM : ¬ S M) : OwnRes w' base S v L :=
  ⟨World.ownsRow.kept h.1 (row := some M) ⟨hb.os, hb.tape, hb.output, hb.size, fun j hj hn => hb.block j hj (by simp; intro e; exact hn (by rw [e]))⟩ (by
    cases hg : v.ownBlock with
    | none => exact .inl rfl
    | some g => exact .inr (fun e => hv g hg (Option.some.inj e))), fun e he => (h.2 e he).but hb (fun k hk => by simp; rintro rfl; exact hM hk.1)⟩
theorem OwnRes.push {w w' : World} {base : Nat} {S : Nat → Prop} {a a' : Option Addr} {n n' c c' : Nat} {L : List (Re × List Value)} {t : Re} {cs : List Value} (h : OwnRes w base S (.slice a n c) L) (hn : n' = L.length + 1)
    (ho : w'.ownsRow base 28 9 (.slice a' n' c') n' (L.flatMap Prod.snd ++ cs)) (hg : w.grownBy w' (Value.slice a n c).ownBlock) (hnew : ∀ g, (Value.slice a' n' c').ownBlock = some g → (Value.slice a n c).ownBlock = some g ∨ w.heap.size ≤ g)
    (ht : t.InS (fun k => S k ∧ (Value.slice a n c).ownBlock ≠ some k) w cs) : OwnRes w' base S (.slice a' n' c') (L ++ [(t, cs)]) := by
  subst hn
  refine ⟨by simpa [List.flatMap_append] using ho, fun e he => ?_⟩
  have key : ∀ (t : Re) (cs : List Value), t.InS (fun k => S k ∧ (Value.slice a n c).ownBlock ≠ some k) w cs → t.InS (fun k => S k ∧ (Value.slice a' (L.length + 1) c').ownBlock ≠ some k) w' cs := by
    intro t cs hh
    refine hh.step hg.size fun k hk hl => ⟨⟨hk.1, fun e2 => ?_⟩, hg.block k hl (fun e2 => hk.2 e2.symm)⟩
    rcases hnew k e2 with h3 | h3
    · exact hk.2 h3
    · omega
  rcases List.mem_append.1 he with he | he
  · exact key _ _ (h.2 e he)
  · rw [List.mem_singleton.1 he]; exact key _ _ ht

theorem flat9 : ∀ (L : List (Re × List Value)) (_ : ∀ e, e ∈ L → e.2.length = 9) (i : Nat) (e : Re × List Value) (j : Nat), L[i]? = some e → j < 9 → (L.flatMap Prod.snd)[i * 9 + j]? = e.2[j]?
  | [], _, i, e, j, h, _ => by simp at h
  | a :: L, hl, i, e, j, h, hj => by
    have ha := hl a (by simp)
    cases i with
    | zero =>
      simp at h
      subst h
      rw [List.flatMap_cons, Nat.zero_mul, Nat.zero_add, List.getElem?_append_left (by omega)]
    | succ i =>
      rw [List.flatMap_cons, List.getElem?_append_right (by omega)]
      have : (i + 1) * 9 + j - a.2.length = i * 9 + j := by omega
      rw [this]
      exact flat9 L (fun e he => hl e (by simp [he])) i e j (by simpa using h) hj

theorem AllIn_of (x : World) (g : Nat) : ∀ (L : List (Re × List Value)) (k : Nat), (∀ (i : Nat) (e : Re × List Value), L[i]? = some e → CellsAt x g (k + i * 9) e.2 ∧ e.1.In x e.2) → Re.AllIn x (L.map Prod.fst) (some ⟨g, 0, none⟩) k
  | [], k, _ => by simp [Re.AllIn]
  | e :: L, k, h => by
    rw [List.map_cons, Re.AllIn]
    have h0 := h 0 e rfl
    exact ⟨⟨g, 0, e.2, rfl, by simpa using h0.1, h0.2⟩, AllIn_of x g L (k + 9) fun i e' hi => by
      have h1 := h (i + 1) e' (by simpa using hi)
      exact ⟨by rw [show k + 9 + i * 9 = k + (i + 1) * 9 by omega]; exact h1.1, h1.2⟩⟩

theorem OwnRes.node {w : World} {base : Nat} {S : Nat → Prop} {v : Value} {L : List (Re × List Value)} (h : OwnRes w base S v L) (hb : ∀ k, base ≤ k → S k) (p : Pay) (hp : p.wf) : (Re.mk p (L.map Prod.fst)).InS S w (p.cells v) := by
  intro x h1 h2
  rw [Re.In]
  have hlen : (L.map Prod.fst).length = L.length := by simp
  have hel : ∀ e, e ∈ L → e.1.In x e.2 := fun e he => h.2 e he x h1 fun k hk hl => h2 k hk.1 hl
  rcases h.1.2 with ⟨rfl, h0⟩ | ⟨g, cap, cur, rfl, hg, hcur, hnc, hcm, hsz, hx⟩
  · have : L = [] := List.length_eq_zero_iff.1 h0
    subst this
    exact ⟨none, 0, by simp, hp, Nat.le_refl _, Nat.zero_le _, fun _ => rfl, by simp [Re.AllIn]⟩
  · refine ⟨some ⟨g, 0, none⟩, cap, by rw [hlen], hp, by rw [hlen]; exact hnc, hcm, fun e => (by cases e), AllIn_of x g L 0 fun i e hi => ⟨fun j u hj => ?_, hel e (List.mem_of_getElem? hi)⟩⟩
    have h9 : ∀ e, e ∈ L → e.2.length = 9 := fun e he => (hel e he).nine
    have hj9 : j < 9 := by
      have := h9 e (List.mem_of_getElem? hi)
      have := (List.getElem?_eq_some_iff.1 hj).1
      omega
    have hil : i < L.length := (List.getElem?_eq_some_iff.1 hi).1
    have hgl : g < w.heap.size := (h.lt g rfl).2
    rw [World.cell?_of_block (h2 g (hb g hg) hgl), Nat.zero_add, World.ownsRow.cellAt h.1 (i * 9 + j) (by omega), flat9 L h9 i e j hi hj9, hj]
theorem OwnRes.elem {w : World} {base : Nat} {S : Nat → Prop} {v : Value} {L : List (Re × List Value)} (h : OwnRes w base S v L) (i : Nat) (e : Re × List Value) (hi : L[i]? = some e) : ∃ g c, v = .slice (some ⟨g, 0, none⟩) L.length c ∧ base ≤ g ∧ g < w.heap.size ∧ L.length ≤ c ∧ CellsAt w g (i * 9) e.2 := by
  have hil : i < L.length := (List.getElem?_eq_some_iff.1 hi).1
  rcases h.1.2 with ⟨_, h0⟩ | ⟨g, cap, cur, rfl, hg, hcur, hnc, hcm, hsz, hx⟩
  · omega
  · refine ⟨g, cap, rfl, hg, (h.lt g rfl).2, hnc, fun j u hj => ?_⟩
    have h9 : ∀ e, e ∈ L → e.2.length = 9 := fun e he => (h.2 e he).self.nine
    have hj9 : j < 9 := by
      have := h9 e (List.mem_of_getElem? hi)
      have := (List.getElem?_eq_some_iff.1 hj).1
      omega
    rw [World.ownsRow.cellAt h.1 (i * 9 + j) (by omega), flat9 L h9 i e j hi hj9, hj]
theorem Re.cells_shape {w : World} {t : Re} {cs : List Value} (h : t.In w cs) : ∃ (p : Pay) (ad : Option Addr) (n c : Nat), cs = [.int .i64 p.op, .int .u64 p.set.a, .int .u64 p.set.b, .int .u64 p.set.c, .int .u64 p.set.d, .int .i64 p.lo, .int .i64 p.hi, .int .i64 p.gr, .slice ad n c] := by
  cases t with
  | mk p xs => rw [Re.In] at h; obtain ⟨ad, cap, rfl, _⟩ := h; exact ⟨p, ad, _, cap, rfl⟩
theorem OwnRes.same {w : World} {base n B : Nat} {S : Nat → Prop} {t : Re} {cs : List Value} {M : List Value} (hr : Row w B M 28) (hb : base ≤ B) (hn : n ≤ maxLen) (hM : M = (List.replicate n cs).flatten) (ht : t.InS (fun k => S k ∧ k ≠ B) w cs) :
    OwnRes w base S (.slice (some ⟨B, 0, none⟩) n n) (List.replicate n (t, cs)) := by
  have h9 := ht.self.nine
  have hf : (List.replicate n (t, cs)).flatMap Prod.snd = (List.replicate n cs).flatten := by
    rw [List.flatMap_def, List.map_replicate]
  have hl : (List.replicate n cs).flatten.length = n * 9 := by
    rw [List.length_flatten, List.map_replicate, List.sum_replicate_nat, h9]
  refine ⟨⟨by rw [hf, hl]; simp, .inr ⟨B, n, M.toArray, by simp, hb, hr, by simp, hn, by simp [hM, hl], by rw [hf, hM, List.length_replicate, ← hl]; exact List.take_length⟩⟩, fun e he => ?_⟩
  obtain rfl := (List.eq_of_mem_replicate he)
  exact ht.step (Nat.le_refl _) fun k hk _ => ⟨⟨hk.1, fun e2 => by simp [Value.ownBlock] at e2; exact hk.2 e2.symm⟩, rfl⟩

theorem Row.set9 {w : World} {B : Nat} {a b c d e f g i j : Value} {T : TypeId} (h : Row w B [a, b, c, d, e, f, g, i, j] T) (a' b' c' d' e' f' g' i' j' : Value) : Row (((((((((w.setCell ⟨B, 0, none⟩ a').setCell ⟨B, 1, none⟩ b').setCell ⟨B, 2, none⟩ c').setCell ⟨B, 3, none⟩ d').setCell ⟨B, 4, none⟩ e').setCell ⟨B, 5, none⟩ f').setCell ⟨B, 6, none⟩ g').setCell ⟨B, 7, none⟩ i').setCell ⟨B, 8, none⟩ j') B [a', b', c', d', e', f', g', i', j'] T :=
  ((((((((h.set 0 _).set 1 _).set 2 _).set 3 _).set 4 _).set 5 _).set 6 _).set 7 _).set 8 _
theorem below9 {n : Nat} {w x : World} {B : Nat} (h : Below n w x) (hB : n ≤ B) (a' b' c' d' e' f' g' i' j' : Value) : Below n w (((((((((x.setCell ⟨B, 0, none⟩ a').setCell ⟨B, 1, none⟩ b').setCell ⟨B, 2, none⟩ c').setCell ⟨B, 3, none⟩ d').setCell ⟨B, 4, none⟩ e').setCell ⟨B, 5, none⟩ f').setCell ⟨B, 6, none⟩ g').setCell ⟨B, 7, none⟩ i').setCell ⟨B, 8, none⟩ j') :=
  ((((((((h.setCell hB _).setCell hB _).setCell hB _).setCell hB _).setCell hB _).setCell hB _).setCell hB _).setCell hB _).setCell hB _
theorem But.set9 {S : List Nat} {w x : World} {B : Nat} (h : But S w x) (hB : B ∈ S ∨ w.heap.size ≤ B) (a' b' c' d' e' f' g' i' j' : Value) : But S w (((((((((x.setCell ⟨B, 0, none⟩ a').setCell ⟨B, 1, none⟩ b').setCell ⟨B, 2, none⟩ c').setCell ⟨B, 3, none⟩ d').setCell ⟨B, 4, none⟩ e').setCell ⟨B, 5, none⟩ f').setCell ⟨B, 6, none⟩ g').setCell ⟨B, 7, none⟩ i').setCell ⟨B, 8, none⟩ j') :=
  ((((((((h.setCell hB _).setCell hB _).setCell hB _).setCell hB _).setCell hB _).setCell hB _).setCell hB _).setCell hB _).setCell hB _
end Go.Proofs.Ythnpbopnpdlmnaa

/- The program's alt. -/
namespace Go.Proofs.Ythnpbopnpdlmnaa
open Go.RowKit
attribute [local go_sem] gives givesUpon

def OwnJ (w : World) (base : Nat) (v : Value) (J : List Nat) : Prop := w.ownsRow base 3 1 v J.length (J.map fun j => .int .i64 (j : Nat))
theorem OwnJ.lt {w : World} {base : Nat} {v : Value} {J : List Nat} (h : OwnJ w base v J) : ∀ g, v.ownBlock = some g → base ≤ g ∧ g < w.heap.size := World.ownsRow.lt h
theorem own_ne {w : World} {b1 b2 : Nat} {v1 v2 : Value} {L : List Inst} {J : List Nat} (h : OwnI w b1 v1 L) (k : OwnJ w b2 v2 J) (g : Nat) (h1 : v1.ownBlock = some g) (h2 : v2.ownBlock = some g) : False := by
  rcases h.2 with ⟨rfl, _⟩ | ⟨g1, cap1, cur1, rfl, _, e1, _⟩
  · simp [Value.ownBlock] at h1
  rcases k.2 with ⟨rfl, _⟩ | ⟨g2, cap2, cur2, rfl, _, e2, _⟩
  · simp [Value.ownBlock] at h2
  simp [Value.ownBlock] at h1 h2
  subst h1 h2
  rw [e1] at e2
  have e := Option.some.inj e2
  injection e with e3 e4
  exact absurd e4 (by decide)
theorem OwnJ.below {w w' : World} {base : Nat} {v : Value} {J : List Nat} (h : OwnJ w base v J) (hb : Below w.heap.size w w') : OwnJ w' base v J := by
  refine ⟨h.1, ?_⟩
  have hlt := h.lt
  rcases h.2 with hn | ⟨g, cap, cur, rfl, hb1, hgg, rest⟩
  · exact .inl hn
  · exact .inr ⟨g, cap, cur, rfl, hb1, (hb.block g (hlt g rfl).2).trans hgg, rest⟩
theorem FrB.set {BB g : Nat} {w : World} (i : Nat) (v : Value) : FrB BB (some g) w (w.setCell ⟨g, i, none⟩ v) := by
  have hs := (But.refl [g] w).setCell (p := ⟨g, i, none⟩) (.inl (by simp)) v
  exact ⟨hs.os, hs.tape, hs.output, hs.size, fun j hj _ h2 => hs.block j hj (by simp; intro e; exact h2 (by rw [e]))⟩
theorem FrB.grown {BB : Nat} {go row : Option Nat} {w a b : World} (h : FrB BB go w a) (k : a.grownBy b row) (hr : ∀ g, row = some g → w.heap.size ≤ g) : FrB BB go w b :=
  ⟨k.os.trans h.os, k.tape.trans h.tape, k.output.trans h.output, Nat.le_trans h.size k.size, fun j hj h1 h2 => (k.block j (Nat.lt_of_lt_of_le hj h.size) (fun e => by have := hr j e.symm; omega)).trans (h.block j hj h1 h2)⟩
theorem info_j : (Try.prog.info? 3).map (fun i => (i.zero, i.size, i.bytes)) = some (some (.int .i64 0), 1, 8) := by kernel_rfl

end Go.Proofs.Ythnpbopnpdlmnaa

/- The program's repeat. -/
namespace Go.Proofs.Ythnpbopnpdlmnaa
open Go.RowKit
attribute [local go_sem] gives givesUpon


end Go.Proofs.Ythnpbopnpdlmnaa

/- The program's tree. -/
namespace Go.Proofs.Ythnpbopnpdlmnaa
open Go.RowKit
attribute [local go_sem] gives givesUpon

mutual
def Re.fine : Re → Prop
  | .mk p xs => (p.op = 4 → 1 ≤ xs.length) ∧ (p.op = 5 → xs.length = 1) ∧ ((p.op = 6 → xs.length = 1) ∧ (p.op = 3 ∨ p.op = 4 ∨ p.op = 5 ∨ p.op = 6 ∨ xs = [])) ∧ Re.fines xs
def Re.fines : List Re → Prop
  | [] => True
  | t :: ts => t.fine ∧ Re.fines ts
end
theorem Re.fines_mem : ∀ (xs : List Re), Re.fines xs → ∀ a, a ∈ xs → a.fine
  | t :: ts, h, a, ha => by
    rw [Re.fines] at h
    rcases List.mem_cons.1 ha with rfl | ha
    · exact h.1
    · exact Re.fines_mem ts h.2 a ha
theorem Re.gens_app : ∀ (xs ys : List Re) (n : Nat), Re.gens (xs ++ ys) n = Re.gens xs n ++ Re.gens ys (n + Re.csizes xs)
  | [], ys, n => by simp [Re.gens, Re.csizes]
  | t :: ts, ys, n => by rw [List.cons_append, Re.gens, Re.gens, Re.csizes, Re.gens_app ts ys, List.append_assoc, Nat.add_assoc]
theorem FrB.go0 {go go1 : Option Nat} {w : World} {o : Obj} (h : GoTo (w.alloc o) go go1) : GoTo w go go1 := by
  rcases h with h | ⟨g, h, h2⟩
  · exact .inl h
  · exact .inr ⟨g, h, by simp at h2; omega⟩

end Go.Proofs.Ythnpbopnpdlmnaa

/- The program's alt of two facts. -/
namespace Go.Proofs.Ythnpbopnpdlmnaa
open Go.RowKit
attribute [local go_sem] gives givesUpon


end Go.Proofs.Ythnpbopnpdlmnaa

/- Equality of sets, and the fields that a node may have. -/
namespace Go.Proofs.Ythnpbopnpdlmnaa
open Go.RowKit

theorem info_u64 : (Try.prog.info? 22).map (fun i => (i.zero, i.size, i.bytes)) = some (some (.int .u64 0), 1, 8) := by kernel_rfl
theorem run_eqIn_cs (a b c d a' b' c' d' : Nat) (w : World) : (Op.equalIn 10000 25 (.agg #[.int .u64 a, .int .u64 b, .int .u64 c, .int .u64 d]) (.agg #[.int .u64 a', .int .u64 b', .int .u64 c', .int .u64 d'])).run Try.prog w = .ok (decide ((⟨a, b, c, d⟩ : Cs) = ⟨a', b', c', d'⟩)) w := by
  have hf : (Try.prog.fieldsOf 25).toList = [{ name := "Bits", type := 23, offset := 0, embedded := false, tag := "", pkgPath := "", byteOffset := 0 }] := by kernel_rfl
  obtain ⟨i, hi, _, _, _⟩ := info_parts info_u64
  have hc : Try.prog.cellsOf 22 = 1 := by kernel_rfl
  have key : decide ((⟨a, b, c, d⟩ : Cs) = ⟨a', b', c', d'⟩) = (((a : Int) == a') && ((b : Int) == b') && ((c : Int) == c') && ((d : Int) == d')) := by
    rw [Bool.eq_iff_iff]
    simp [and_assoc]
    omega
  rw [key, run_equalIn_agg _ 9999 25 _ _ (by kernel_rfl) (by kernel_rfl), hf]
  simp [Op.eqFields, go_sem]
  rw [run_equalIn_array _ 9998 _ _ Try.underlying23 hi, hc]
  simp [Op.eqItems, List.range_succ, go_sem]
  by_cases h1 : (a : Int) = a' <;> by_cases h2 : (b : Int) = b' <;> by_cases h3 : (c : Int) = c' <;> by_cases h4 : (d : Int) = d' <;> simp [h1, h2, h3, h4]

def Pay.shaped (p : Pay) (n : Nat) : Bool :=
  if p.op = 1 ∨ p.op = 7 ∨ p.op = 8 then decide (n = 0) && (decide (p.lo = 0) && decide (p.hi = 0)) && decide (p.gr = 0) && decide (p.set = Cs.none)
  else if p.op = 2 then decide (n = 0) && (decide (p.lo = 0) && decide (p.hi = 0)) && decide (p.gr = 0) && !decide (p.set = Cs.none)
  else if p.op = 3 ∨ p.op = 4 then decide (2 ≤ n) && (decide (p.lo = 0) && decide (p.hi = 0)) && decide (p.gr = 0) && decide (p.set = Cs.none)
  else if p.op = 5 then decide (n = 1) && decide (p.gr = 0) && decide (p.set = Cs.none)
  else if p.op = 6 then decide (n = 1) && (decide (p.lo = 0) && decide (p.hi = 0)) && decide (p.set = Cs.none)
  else if p.op = 9 then decide (n = 0) && (decide (p.lo = 0) && decide (p.hi = 0)) && decide (p.set = Cs.none)
  else false

theorem eq_none (p : Pay) (w : World) : (Op.equalIn 10000 25 (.agg #[.int .u64 p.set.a, .int .u64 p.set.b, .int .u64 p.set.c, .int .u64 p.set.d]) (.agg #[.int .u64 0, .int .u64 0, .int .u64 0, .int .u64 0])).run Try.prog w = .ok (decide (p.set = Cs.none)) w :=
  run_eqIn_cs p.set.a p.set.b p.set.c p.set.d 0 0 0 0 w

set_option maxRecDepth 100000 in
set_option maxHeartbeats 4000000 in
theorem shapedRef_any (p : Pay) (ad : Option Addr) (n cap : Nat) (w : World) (hn : n ≤ maxLen) (_hop : I64 p.op) :
    Calls Try.prog 45 #[.agg #[.int .i64 p.op, .int .u64 p.set.a, .int .u64 p.set.b, .int .u64 p.set.c, .int .u64 p.set.d, .int .i64 p.lo, .int .i64 p.hi, .int .i64 p.gr, .slice ad n cap]] w fun e w' => e = .returned (.bool (p.shaped n)) ∧ Below w.heap.size w w' := by
  unfold maxLen at hn
  have heq := eq_none p
  have hd : ∃ b, p.shaped n = b := ⟨_, rfl⟩
  obtain ⟨b, hb⟩ := hd
  rw [hb]
  unfold Pay.shaped at hb
  generalize hz : decide (p.set = Cs.none) = z at heq hb
  have HB := hid hb
  clear hb hz
  cases z
  all_goals
    rcases (show p.op = 1 ∨ p.op = 2 ∨ p.op = 3 ∨ p.op = 4 ∨ p.op = 5 ∨ p.op = 6 ∨ p.op = 7 ∨ p.op = 8 ∨ p.op = 9 ∨ ¬ (1 ≤ p.op ∧ p.op ≤ 9) by omega) with h | h | h | h | h | h | h | h | h | h
  all_goals
    go_enter Try.func45, Try.ntmps45
    go_wp2
    all_goals
      go_ret
      refine ⟨ret_bool ?_, (Below.refl _ _).alloc (Nat.le_refl _) _⟩
      have hb := HB.out
      clear HB heq
      rw [Bool.eq_iff_iff, ← hb]
      clear hb
      first | (simp_all; done) | (simp_all; omega)

end Go.Proofs.Ythnpbopnpdlmnaa

/- The fields that a node may have, as the program asks. -/
namespace Go.Proofs.Ythnpbopnpdlmnaa
open Go.RowKit
attribute [local go_sem] gives givesUpon

end Go.Proofs.Ythnpbopnpdlmnaa

/- The checker of trees: what one node, and those below it, do to it. -/
namespace Go.Proofs.Ythnpbopnpdlmnaa
open Go.RowKit
attribute [local go_sem] gives givesUpon

structure Ck where
  shape : Bool
  bounds : Bool
  name : Bool
  nodes : Nat
  groups : Nat
  closed : Int → Bool

def Pay.badRep (p : Pay) : Bool := decide (p.lo < 0) || decide (64 < p.lo) || (decide (p.hi ≠ -1) && (decide (p.hi < p.lo) || decide (64 < p.hi)))


def onOff (f : Int → Bool) (k : Int) : Option Value := if f k then some (.bool true) else none
def CkAt (w : World) (R M : Nat) (c : Ck) : Prop := Row w R [.bool c.shape, .bool c.bounds, .bool c.name, .int .i64 c.nodes, .int .i64 c.groups, .slice none 0 0, .map (some M)] 134 ∧ IMap w M (onOff c.closed)

def At (w : World) (R M : Nat) (c : Ck) (p : Pay) (sl : Value) (wx : World) : Prop :=
  CkAt wx R M c ∧ Row wx w.heap.size (p.cells sl) 28 ∧ But [R, M] w wx

end Go.Proofs.Ythnpbopnpdlmnaa

/- The plain law of the check of trees: what the checker collects is what the four questions ask. No program. -/
namespace Go.Proofs.Ythnpbopnpdlmnaa
open Go.RowKit

mutual
def Re.typed : Re → Bool
  | .mk p xs => p.shaped xs.length && Re.typeds xs
def Re.typeds : List Re → Bool
  | [] => true
  | t :: ts => t.typed && Re.typeds ts
end
mutual
def Re.ranged : Re → Nat → Option Nat
  | .mk p xs, b => if p.op = 5 ∧ p.badRep = true then none else if p.op = 6 then (if p.gr = b + 1 then Re.rangeds xs (b + 1) else none) else Re.rangeds xs b
def Re.rangeds : List Re → Nat → Option Nat
  | [], b => some b
  | t :: ts, b => match t.ranged b with
    | some n => Re.rangeds ts n
    | none => none
end
mutual
def Re.named : Re → List Int → Option (List Int)
  | .mk p xs, l => if p.op = 9 ∧ p.gr ∉ l then none else match Re.nameds xs l with
    | some l' => if p.op = 6 then some (l' ++ [p.gr]) else some l'
    | none => none
def Re.nameds : List Re → List Int → Option (List Int)
  | [], l => some l
  | t :: ts, l => match t.named l with
    | some l' => Re.nameds ts l'
    | none => none
end
mutual
def Re.levels : Re → Nat
  | .mk _ xs => Re.levelss xs + 1
def Re.levelss : List Re → Nat
  | [] => 0
  | t :: ts => max t.levels (Re.levelss ts)
end
def Re.err (t : Re) : Int :=
  if t.typed = false then 7 else if (t.ranged 0).isNone then 2 else if (t.named []).isNone then 4 else if 600 < t.size ∨ 9 < t.groups ∨ 32 < t.levels then 3 else 0

mutual
theorem Re.ranged_groups : ∀ (t : Re) (b n : Nat), t.ranged b = some n → n = b + t.groups
  | .mk p xs, b, n, h => by
    rw [Re.ranged] at h
    simp only [Re.groups, Re.count]
    split at h
    · cases h
    · split at h
      · rename_i h6
        split at h
        · have := Re.rangeds_groups xs (b + 1) n h; simp [h6]; omega
        · cases h
      · rename_i h6
        have := Re.rangeds_groups xs b n h; simp [h6]; omega
theorem Re.rangeds_groups : ∀ (xs : List Re) (b n : Nat), Re.rangeds xs b = some n → n = b + Re.counts (· == 6) xs
  | [], b, n, h => by simp [Re.rangeds] at h; simp [Re.counts, h]
  | t :: ts, b, n, h => by
    rw [Re.rangeds] at h
    split at h
    · rename_i m hm
      have h1 := Re.ranged_groups t b m hm
      have h2 := Re.rangeds_groups ts m n h
      simp only [Re.counts, Re.groups] at *; omega
    · cases h
end

end Go.Proofs.Ythnpbopnpdlmnaa

/- What is learnt of a tree: the law side. -/
namespace Go.Proofs.Ythnpbopnpdlmnaa
open Go.RowKit

mutual
def Re.lreps : Re → Bool
  | .mk p xs => decide (p.op = 5 → (-1 ≤ p.lo ∧ p.lo ≤ 64) ∧ (-1 ≤ p.hi ∧ p.hi ≤ 64)) && Re.lrepss xs
def Re.lrepss : List Re → Bool
  | [] => true
  | t :: ts => t.lreps && Re.lrepss ts
end
end Go.Proofs.Ythnpbopnpdlmnaa
