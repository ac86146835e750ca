/- Decimal digits: the program's Format (by the library's Itoa) and the reference's. -/
import Derived.Test.YtjjhdddlbgdkeaaDoorG20
import Derived.Test.YtjjhdddlbgdkeaaDoorG21
import Derived.Laws.IdiomStrings
import Derived.Test.YtjjhdddlbgdkeaaDoorG03
import Derived.OneCell
import Derived.Test.YtjjhdddlbgdkeaaDoorG04
namespace Go.Proofs.YtjjhdddlbgdkeaaDoor
open Go.RowKit Go.Sort

/-- The words of the instructions, as the program holds them. -/
def nameVals : List Value := [.string ⟨#[]⟩, .string ⟨#[115, 101, 116]⟩, .string ⟨#[115, 112, 108, 105, 116]⟩, .string ⟨#[106, 117, 109, 112]⟩, .string ⟨#[98, 101, 103, 105, 110]⟩, .string ⟨#[101, 110, 100]⟩, .string ⟨#[109, 97, 116, 99, 104]⟩]
/-- The tables that the program reads. -/
structure Tabs (w : World) : Prop where
  pow : Lib.TabIs Tryd.prog w "internal/strconv.uint64pow10" .u64 Lib.pow10Tab
  names : w.var? Tryd.prog "texttools/reprog.names" = some nameVals.toArray
theorem var_below {w w' : World} {n : Nat} {name : String} {cs : Array Value} (h : w.var? Tryd.prog name = some cs) (hg : (Tryd.prog.globalNamed name).map (fun g => decide (g < 2)) = some true) (hb : Below n w w') (hn : 2 ≤ n) : w'.var? Tryd.prog name = some cs := by
  obtain ⟨g, hg1, hg2⟩ := Option.map_eq_some_iff.1 hg
  have hg3 : g < 2 := by simpa using hg2
  unfold World.var? at h ⊢
  rw [hg1] at h ⊢
  simp only [Option.bind_some] at h ⊢
  rw [hb.block g (by omega)]
  exact h
theorem Tabs.below {w w' : World} {n : Nat} (h : Tabs w) (hb : Below n w w') (hn : 2 ≤ n) : Tabs w' :=
  ⟨var_below h.pow (by kernel_rfl) hb hn, var_below h.names (by kernel_rfl) hb hn⟩
theorem below_of_grow (w : World) (k : Nat) (os : Array Obj) : Below w.heap.size w (grow (w.drewN k) os) := by
  refine ⟨rfl, rfl, rfl, ?_, fun i hi => ?_⟩
  · simp
  · rw [heap_grow_old _ _ (by simpa using hi)]
    simp
set_option maxHeartbeats 1000000 in
theorem Format_any (n : Nat) (w : World) (hn : n < 100000) (ht : Tabs w) :
    Calls Tryd.prog 14 #[.int .i64 n] w fun e w' => e = .returned (.string (bs (dec n))) ∧ Below w.heap.size w w' := by
  have HI := hid (Tryd.strconv_Itoa n (by omega) (by omega) w ht.pow)
  rw [Lib.itoa_nonneg] at HI
  go_enter Tryd.func14, Tryd.ntmps14
  go_wp2_with fail
  refine HI.out.mono ?_
  rintro e w1 ⟨rfl, k, os, rfl⟩
  have HB := hid (below_of_grow w k os)
  generalize grow (w.drewN k) os = w2 at *
  go_wp2_with fail
  all_goals (try go_ret)
  all_goals exact ⟨rfl, HB.out⟩
/-- The reference's loop: what is left of the number, and the digits so far. -/
def Fm (n m : Nat) (l : List UInt8) : Prop := if m = 0 then dec n = l else dec n = dec m ++ l
theorem Fm.next {n m : Nat} {l : List UInt8} (h : Fm n m l) (hm : 0 < m) : Fm n (m / 10) (UInt8.ofNat (48 + m % 10) :: l) := by
  unfold Fm at h ⊢
  rw [if_neg (by omega)] at h
  by_cases h1 : m < 10
  · rw [if_pos (by omega), h, dec_small h1, show m % 10 = m by omega]
    rfl
  · rw [if_neg (by omega), h, dec_big h1]
    simp
set_option maxRecDepth 100000 in
set_option maxHeartbeats 2000000 in
theorem FormatR_any (n : Nat) (w : World) (hn : n < 100000) :
    Calls Tryd.prog 18 #[.int .i64 n] w fun e w' => e = .returned (.string (bs (dec n))) ∧ Below w.heap.size w w' := by
  rcases Nat.eq_zero_or_pos n with rfl | h0
  · go_enter Tryd.func18, Tryd.ntmps18
    go_wp2_with fail
    all_goals (try go_ret)
    all_goals exact ⟨by rw [dec_small (by omega)]; rfl, Below.refl _ _⟩
  have d0 : ((n : Int) == 0) = false := beq_eq_false_iff_ne.2 (by omega)
  have HPP : Hid (∀ (l : List UInt8) w', Fm n 0 l → Below w.heap.size w w' → Ending.returned (.string (bs l)) = .returned (.string (bs (dec n))) ∧ Below w.heap.size w w') := by
    intro l w' h1 h2
    unfold Fm at h1
    rw [if_pos rfl] at h1
    rw [h1]
    exact ⟨rfl, h2⟩
  have HF0 : Hid (Fm n n []) := by show Fm n n []; unfold Fm; rw [if_neg (by omega), List.append_nil]
  go_enter Tryd.func18, Tryd.ntmps18
  go_wp2_with fail
  go_loopw [3, 4] (fun vs vm wr => ∃ (m : Nat) (l : List UInt8), m ≤ n ∧ vm = .int .i64 m ∧ vs = .string (bs l) ∧ Hid (Fm n m l ∧ Below w.heap.size w wr)) (fun _ vm _ => (intOf vm).toNat)
  case atStart => exact ⟨n, [], Nat.le_refl _, rfl, rfl, HF0.out, Below.refl _ _⟩
  case round =>
    obtain ⟨m, l, hmn, rfl, rfl, HX⟩ := hrel
    rcases Nat.eq_zero_or_pos m with rfl | hm
    · go_wp2_with fail
      all_goals (try go_ret)
      all_goals exact HPP.out l _ HX.out.1 HX.out.2
    have dm : ((m : Int) == 0) = false := beq_eq_false_iff_ne.2 (by omega)
    have e1 : (m : Int).tmod 10 = ((m % 10 : Nat) : Int) := by rw [Int.ofNat_tmod]; rfl
    have e2 : (m : Int).tdiv 10 = ((m / 10 : Nat) : Int) := by rw [Int.ofNat_tdiv]; rfl
    have hd : m % 10 < 10 := by omega
    have HN := hid (HX.out.1.next hm)
    have hbsl : (bs l).size ≤ 5 := by
      rw [bs_size]
      have h1 := HX.out.1
      unfold Fm at h1
      rw [if_neg (by omega)] at h1
      have h2 := dec_len hn
      rw [h1, List.length_append] at h2
      omega
    have hcx : ((UInt8.ofNat (48 + m % 10)).toNat : Int) = 48 + ((m % 10 : Nat) : Int) := by
      rw [UInt8.toNat_ofNat']
      omega
    generalize hc : UInt8.ofNat (48 + m % 10) = c at *
    have HRW : Hid (Row (wr.alloc (.cells #[.int .u8 c.toNat] 5)) wr.heap.size [.int .u8 c.toNat] 5) := Row.at wr [.int .u8 c.toNat] _
    have HAL : Hid (Below w.heap.size w (wr.alloc (.cells #[.int .u8 c.toNat] 5))) := HX.out.2.alloc HX.out.2.size _
    have hcv : (convert 38 9 (.slice (some ⟨wr.heap.size, 0, none⟩) 1 1)).run Tryd.prog (wr.alloc (.cells #[.int .u8 c.toNat] 5)) = .ok (.string ⟨#[c]⟩) (wr.alloc (.cells #[.int .u8 c.toNat] 5)) :=
      run_convert_bytes_back _ _ _ 5 ⟨wr.heap.size, 0, none⟩ 1 [c] Tryd.underlying38 Tryd.underlying5 Tryd.underlying9 (fun j hj => by
        have hj0 : j = 0 := by simp at hj; exact hj
        subst hj0
        rw [Addr.add_lit]
        exact HRW.out.cell 0)
    have HBS : Hid ((⟨#[c]⟩ : ByteArray) ++ bs l = bs (c :: l)) := bs_app [c] l
    rw [hcx] at HRW HAL hcv
    generalize m % 10 = d at *
    go_upto_region 10 with fail
    go_wp2_with fail
    all_goals
      refine ⟨⟨m / 10, c :: l, by omega, by go_num, by rw [← HBS.out], HN.out, HAL.out⟩, ?_⟩
      show ((m : Int).tdiv 10).toNat < (m : Int).toNat
      rw [e2]
      omega
end Go.Proofs.YtjjhdddlbgdkeaaDoor

/- The simulation of a program, plainly: what is reached without a byte, and after bytes; a depth-first search over marks. No program. -/
namespace Go.Proofs.YtjjhdddlbgdkeaaDoor
open Go.RowKit

structure Sim where
  L : List Inst
  lines : Bool
  s : List UInt8
namespace Sim
def byte (m : Sim) (i : Nat) : Nat := (m.s.getD i 0).toNat
def begins (m : Sim) (i : Nat) : Bool := i == 0 || (m.lines && (m.byte (i - 1) == 10))
def ends (m : Sim) (i : Nat) : Bool := i == m.s.length || (m.lines && (m.byte i == 10))
def inst (m : Sim) (k : Nat) : Inst := m.L.getD k (Inst.of 0)
/-- Where the steps without a byte lead. -/
def eps (m : Sim) (i k : Nat) : List Nat :=
  if (m.inst k).op = 3 then [(m.inst k).x.toNat] else if (m.inst k).op = 2 then [(m.inst k).y.toNat, (m.inst k).x.toNat] else
  if (m.inst k).op = 4 then (if m.begins i = true then [k + 1] else []) else if (m.inst k).op = 5 then (if m.ends i = true then [k + 1] else []) else []
def leaf (m : Sim) (k : Nat) : Prop := (m.inst k).op = 1 ∨ (m.inst k).op = 6
inductive Reach (m : Sim) (i : Nat) (S : Nat → Prop) : Nat → Prop
  | base {k : Nat} : S k → Reach m i S k
  | step {k j : Nat} : Reach m i S k → j ∈ m.eps i k → Reach m i S j
def takes (m : Sim) (i k : Nat) : Prop := (m.inst k).op = 1 ∧ (m.inst k).set.has (m.byte i) = true
/-- The instructions that are reached after n bytes from an offset on. -/
def R (m : Sim) (a : Nat) : Nat → Nat → Prop
  | 0 => m.Reach a (· = 0)
  | n + 1 => m.Reach (a + (n + 1)) (fun k => ∃ j, m.R a n j ∧ m.takes (a + n) j ∧ k = j + 1)
theorem Reach.least {m : Sim} {i : Nat} {S V : Nat → Prop} (h0 : ∀ k, S k → V k) (h1 : ∀ k, V k → ∀ j, j ∈ m.eps i k → V j) {k : Nat} (h : m.Reach i S k) : V k := by
  induction h with
  | base h => exact h0 _ h
  | step _ hj ih => exact h1 _ ih _ hj
theorem Reach.mono {m : Sim} {i : Nat} {S T : Nat → Prop} (h0 : ∀ k, S k → T k) {k : Nat} (h : m.Reach i S k) : m.Reach i T k := by
  induction h with
  | base h => exact .base (h0 _ h)
  | step _ hj ih => exact .step ih hj
theorem Reach.split {m : Sim} {i : Nat} {S : Nat → Prop} {k : Nat} (h : m.Reach i S k) : ∃ x, S x ∧ m.Reach i (· = x) k := by
  induction h with
  | base h => exact ⟨_, h, .base rfl⟩
  | step _ hj ih =>
    obtain ⟨x, hx, hr⟩ := ih
    exact ⟨x, hx, .step hr hj⟩
theorem Reach.join {m : Sim} {i : Nat} {S : Nat → Prop} {x k : Nat} (hx : S x) (h : m.Reach i (· = x) k) : m.Reach i S k := h.mono fun _ e => by subst e; exact hx
theorem inst_eq {m : Sim} {k : Nat} (h : k < m.L.length) : m.inst k = m.L[k] := by
  unfold inst
  rw [List.getD_eq_getElem?_getD, List.getElem?_eq_getElem h]
  rfl
theorem right_of {m : Sim} (hR : rightAll m.L) {k : Nat} (h : k < m.L.length) : (m.inst k).right m.L.length k := by
  rw [inst_eq h]
  exact hR.2 k h
theorem eps_lt {m : Sim} (hR : rightAll m.L) {i k j : Nat} (h : k < m.L.length) (hj : j ∈ m.eps i k) : j < m.L.length := by
  have hr := right_of hR h
  unfold eps at hj
  unfold Inst.right at hr
  split at hj
  · have : j = (m.inst k).x.toNat := by simpa using hj
    omega
  split at hj
  · have : j = (m.inst k).y.toNat ∨ j = (m.inst k).x.toNat := by simpa using hj
    omega
  split at hj
  · split at hj
    · have : j = k + 1 := by simpa using hj
      omega
    · cases hj
  split at hj
  · split at hj
    · have : j = k + 1 := by simpa using hj
      omega
    · cases hj
  · cases hj
theorem Reach.lt {m : Sim} (hR : rightAll m.L) {i : Nat} {S : Nat → Prop} (h0 : ∀ k, S k → k < m.L.length) {k : Nat} (h : m.Reach i S k) : k < m.L.length :=
  Reach.least (V := fun k => k < m.L.length) h0 (fun _ hk _ hj => eps_lt hR hk hj) h
theorem takes_lt {m : Sim} (hR : rightAll m.L) {i k : Nat} (h : k < m.L.length) (ht : m.takes i k) : k + 1 < m.L.length := by
  have hr := right_of hR h
  have := ht.1
  unfold Inst.right at hr
  omega
theorem R_lt {m : Sim} (hR : rightAll m.L) (a : Nat) : ∀ (n k : Nat), m.R a n k → k < m.L.length
  | 0, k, h => Reach.lt hR (fun k hk => by have := hR.1.1; subst hk; omega) h
  | n + 1, k, h => Reach.lt hR (fun k ⟨j, hj, ht, e⟩ => by subst e; exact takes_lt hR (R_lt hR a n j hj) ht) h
/-- The invariant of a depth-first search. -/
structure Dfs (m : Sim) (i x : Nat) (V0 V : Nat → Prop) (St acc : List Nat) : Prop where
  old : ∀ k, V0 k → V k
  src : ∀ k, V k → V0 k ∨ m.Reach i (· = x) k
  stk : ∀ k, k ∈ St → m.Reach i (· = x) k
  nxt : ∀ k, V k → ∀ j, j ∈ m.eps i k → V j ∨ j ∈ St
  beg : V x ∨ x ∈ St
  nd : acc.Nodup
  mem : ∀ k, k ∈ acc ↔ m.leaf k ∧ V k ∧ ¬ V0 k
theorem Dfs.first {m : Sim} {i x : Nat} {V0 : Nat → Prop} (hc : ∀ k, V0 k → ∀ j, j ∈ m.eps i k → V0 j) : Dfs m i x V0 V0 [x] [] := by
  refine ⟨fun _ h => h, fun _ h => .inl h, fun k hk => ?_, fun k hk j hj => .inl (hc k hk j hj), .inr (by simp), List.nodup_nil, fun k => ?_⟩
  · obtain rfl : k = x := by simpa using hk
    exact .base rfl
  · constructor
    · intro h; cases h
    · intro h; exact absurd h.2.1 h.2.2
theorem Dfs.skip {m : Sim} {i x k : Nat} {V0 V : Nat → Prop} {St acc : List Nat} (h : Dfs m i x V0 V (St ++ [k]) acc) (hk : V k) : Dfs m i x V0 V St acc := by
  refine ⟨h.old, h.src, fun j hj => h.stk j (by simp [hj]), fun a ha j hj => ?_, ?_, h.nd, h.mem⟩
  · rcases h.nxt a ha j hj with h1 | h1
    · exact .inl h1
    · rcases List.mem_append.1 h1 with h1 | h1
      · exact .inr h1
      · obtain rfl : j = k := by simpa using h1
        exact .inl hk
  · rcases h.beg with h1 | h1
    · exact .inl h1
    · rcases List.mem_append.1 h1 with h1 | h1
      · exact .inr h1
      · obtain rfl : x = k := by simpa using h1
        exact .inl hk
theorem Dfs.visit {m : Sim} {i x k : Nat} {V0 V : Nat → Prop} {St acc : List Nat} (h : Dfs m i x V0 V (St ++ [k]) acc) (hk : ¬ V k) (hl : ¬ m.leaf k) : Dfs m i x V0 (fun j => j = k ∨ V j) (St ++ m.eps i k) acc := by
  have hrk : m.Reach i (· = x) k := h.stk k (by simp)
  refine ⟨fun j hj => .inr (h.old j hj), fun j hj => ?_, fun j hj => ?_, fun a ha j hj => ?_, ?_, h.nd, fun j => ?_⟩
  · rcases hj with rfl | hj
    · exact .inr hrk
    · exact h.src j hj
  · rcases List.mem_append.1 hj with h1 | h1
    · exact h.stk j (by simp [h1])
    · exact .step hrk h1
  · rcases ha with rfl | ha
    · exact .inr (by simp [hj])
    · rcases h.nxt a ha j hj with h1 | h1
      · exact .inl (.inr h1)
      · rcases List.mem_append.1 h1 with h1 | h1
        · exact .inr (by simp [h1])
        · exact .inl (.inl (by simpa using h1))
  · rcases h.beg with h1 | h1
    · exact .inl (.inr h1)
    · rcases List.mem_append.1 h1 with h1 | h1
      · exact .inr (by simp [h1])
      · exact .inl (.inl (by simpa using h1))
  · rw [h.mem]
    constructor
    · rintro ⟨h1, h2, h3⟩
      exact ⟨h1, .inr h2, h3⟩
    · rintro ⟨h1, h2 | h2, h3⟩
      · subst h2; exact absurd h1 hl
      · exact ⟨h1, h2, h3⟩
theorem leaf_eps {m : Sim} {i k : Nat} (h : m.leaf k) : m.eps i k = [] := by
  unfold leaf at h
  unfold eps
  rw [if_neg (by omega), if_neg (by omega), if_neg (by omega), if_neg (by omega)]
theorem Dfs.take {m : Sim} {i x k : Nat} {V0 V : Nat → Prop} {St acc : List Nat} (h : Dfs m i x V0 V (St ++ [k]) acc) (hk : ¬ V k) (hl : m.leaf k) : Dfs m i x V0 (fun j => j = k ∨ V j) St (acc ++ [k]) := by
  have hrk : m.Reach i (· = x) k := h.stk k (by simp)
  have hk0 : ¬ V0 k := fun h0 => hk (h.old k h0)
  refine ⟨fun j hj => .inr (h.old j hj), fun j hj => ?_, fun j hj => h.stk j (by simp [hj]), fun a ha j hj => ?_, ?_, ?_, fun j => ?_⟩
  · rcases hj with rfl | hj
    · exact .inr hrk
    · exact h.src j hj
  · rcases ha with rfl | ha
    · rw [leaf_eps hl] at hj; cases hj
    · rcases h.nxt a ha j hj with h1 | h1
      · exact .inl (.inr h1)
      · rcases List.mem_append.1 h1 with h1 | h1
        · exact .inr h1
        · exact .inl (.inl (by simpa using h1))
  · rcases h.beg with h1 | h1
    · exact .inl (.inr h1)
    · rcases List.mem_append.1 h1 with h1 | h1
      · exact .inr h1
      · exact .inl (.inl (by simpa using h1))
  · rw [List.nodup_append]
    refine ⟨h.nd, by simp, fun a ha b hb => ?_⟩
    obtain rfl : b = k := by simpa using hb
    rintro rfl
    exact hk ((h.mem a).1 ha).2.1
  · rw [List.mem_append, h.mem]
    constructor
    · rintro (⟨h1, h2, h3⟩ | h1)
      · exact ⟨h1, .inr h2, h3⟩
      · obtain rfl : j = k := by simpa using h1
        exact ⟨hl, .inl rfl, hk0⟩
    · rintro ⟨h1, h2 | h2, h3⟩
      · exact .inr (by simp [h2])
      · exact .inl ⟨h1, h2, h3⟩
theorem Dfs.last {m : Sim} {i x : Nat} {V0 V : Nat → Prop} {acc : List Nat} (h : Dfs m i x V0 V [] acc) : (∀ k, V k ↔ V0 k ∨ m.Reach i (· = x) k) ∧ (∀ k, V k → ∀ j, j ∈ m.eps i k → V j) := by
  have hcl : ∀ k, V k → ∀ j, j ∈ m.eps i k → V j := fun k hk j hj => by
    rcases h.nxt k hk j hj with h1 | h1
    · exact h1
    · cases h1
  refine ⟨fun k => ⟨h.src k, ?_⟩, hcl⟩
  rintro (h1 | h1)
  · exact h.old k h1
  · refine Reach.least (V := V) (fun j hj => ?_) hcl h1
    subst hj
    rcases h.beg with h2 | h2
    · exact h2
    · cases h2
end Sim
def upd1 (f : Nat → Int) (k : Nat) (v : Int) : Nat → Int := fun j => if j = k then v else f j
/-- How many are not marked. -/
def unv (mk : Nat → Int) (st : Int) : Nat → Nat
  | 0 => 0
  | n + 1 => unv mk st n + (if mk n = st then 0 else 1)
theorem unv_same (mk : Nat → Int) (st : Int) (k : Nat) : ∀ n, n ≤ k → unv (upd1 mk k st) st n = unv mk st n
  | 0, _ => rfl
  | n + 1, h => by
    unfold unv
    rw [unv_same mk st k n (by omega)]
    have e : upd1 mk k st n = mk n := by unfold upd1; rw [if_neg (by omega)]
    rw [e]
theorem unv_less (mk : Nat → Int) (st : Int) (k : Nat) (hk : mk k ≠ st) : ∀ n, k < n → unv (upd1 mk k st) st n + 1 = unv mk st n
  | n + 1, h => by
    unfold unv
    rcases Nat.lt_or_ge k n with h1 | h1
    · have := unv_less mk st k hk n h1
      have e : upd1 mk k st n = mk n := by unfold upd1; rw [if_neg (by omega)]
      rw [e]; omega
    · obtain rfl : k = n := by omega
      rw [unv_same mk st k k (Nat.le_refl _)]
      have e : upd1 mk k st k = st := by unfold upd1; rw [if_pos rfl]
      rw [e, if_pos rfl, if_neg hk]
end Go.Proofs.YtjjhdddlbgdkeaaDoor

/- A simulation in memory; begins and ends. -/
namespace Go.Proofs.YtjjhdddlbgdkeaaDoor
open Go.RowKit
attribute [local go_sem] gives givesUpon

/-- A list of instructions that is read. -/
def InsAt (w : World) (a : Option Addr) (L : List Inst) : Prop := L = [] ∨ ∃ b o, a = some ⟨b, o, none⟩ ∧ b < w.heap.size ∧ ∀ i (h : i < L.length), CellsAt w b (o + i * 7) L[i].cells
theorem InsAt.below {w w' : World} {a : Option Addr} {L : List Inst} {n : Nat} (h : InsAt w a L) (hb : Below n w w') (hn : w.heap.size ≤ n) : InsAt w' a L := by
  rcases h with h | ⟨b, o, rfl, h1, h2⟩
  · exact .inl h
  · exact .inr ⟨b, o, rfl, Nat.lt_of_lt_of_le h1 hb.size, fun i hi j v hj => by rw [hb.cell (p := ⟨b, o + i * 7 + j, none⟩) (show b < n by omega)]; exact h2 i hi j v hj⟩
theorem InsAt.at {w : World} {a : Option Addr} {L : List Inst} (h : InsAt w a L) {k : Nat} (hk : k < L.length) : ∃ b o, a = some ⟨b, o, none⟩ ∧ b < w.heap.size ∧ CellsAt w b (o + k * 7) L[k].cells := by
  rcases h with h | ⟨b, o, e, h1, h2⟩
  · rw [h] at hk; cases hk
  · exact ⟨b, o, e, h1, h2 k hk⟩
structure SimC (CS : List Value) (a : Option Addr) (n c : Nat) (lines : Bool) (str : ByteArray) (mk : Nat → Int) (st : Int) (sv : Value) : Prop where
  len : CS.length = 4101
  f0 : CS[0]? = some (.slice a n c)
  f1 : CS[1]? = some (.bool lines)
  f2 : CS[2]? = some (.string str)
  fm : ∀ k, k < 4096 → CS[3 + k]? = some (.int .i64 (mk k))
  fs : CS[4099]? = some (.int .i64 st)
  fk : CS[4100]? = some sv
section
variable {w w' : World} {M : Nat} {a : Option Addr} {n c : Nat} {lines : Bool} {str : ByteArray} {mk : Nat → Int} {st : Int} {sv : Value}
end
/-- A block of one type is no row of another. -/
theorem Row.ne_own {w : World} {B : Nat} {cs : List Value} {T e : TypeId} {base size n : Nat} {v : Value} {xs : List Value} (r : Row w B cs T) (h : w.ownsRow base e size v n xs) (hne : T ≠ e) : ∀ g, v.ownBlock = some g → g ≠ B := by
  intro g hg e1
  subst e1
  obtain ⟨-, h2⟩ := h
  rcases h2 with ⟨hv, -⟩ | ⟨g', cap, cur, hv, -, hh, -⟩
  · rw [hv] at hg; cases hg
  · rw [hv] at hg
    have e2 : g' = g := by simpa [Value.ownBlock] using hg
    subst e2
    unfold Row at r
    rw [hh] at r
    simp only [Option.some.injEq, Obj.cells.injEq] at r
    exact hne r.2.1.symm
theorem own_ne_own {w : World} {e e' : TypeId} {base base' size size' n n' : Nat} {v v' : Value} {xs xs' : List Value} (h : w.ownsRow base e size v n xs) (h' : w.ownsRow base' e' size' v' n' xs') (hne : e ≠ e') : ∀ g, v.ownBlock = some g → v'.ownBlock ≠ some g := by
  intro g hg hg'
  obtain ⟨-, h2⟩ := h
  obtain ⟨-, h2'⟩ := h'
  rcases h2 with ⟨hv, -⟩ | ⟨g1, cap, cur, hv, -, hh, -⟩
  · rw [hv] at hg; cases hg
  rcases h2' with ⟨hv', -⟩ | ⟨g2, cap', cur', hv', -, hh', -⟩
  · rw [hv'] at hg'; cases hg'
  rw [hv] at hg
  rw [hv'] at hg'
  have e1 : g1 = g := by simpa [Value.ownBlock] using hg
  have e2 : g2 = g := by simpa [Value.ownBlock] using hg'
  subst e1 e2
  rw [hh] at hh'
  simp only [Option.some.injEq, Obj.cells.injEq] at hh'
  exact hne hh'.2.1
theorem ownsRow_heap {w w' : World} {base : Nat} {e : TypeId} {size n : Nat} {v : Value} {xs : List Value} (h : w.ownsRow base e size v n xs) (hk : ∀ g, v.ownBlock = some g → w'.heap[g]? = w.heap[g]?) : w'.ownsRow base e size v n xs := by
  obtain ⟨h1, h2⟩ := h
  refine ⟨h1, ?_⟩
  rcases h2 with h2 | ⟨g, cap, cur, hv, hg, hh, r⟩
  · exact .inl h2
  · subst hv
    exact .inr ⟨g, cap, cur, rfl, hg, (hk g rfl).trans hh, r⟩
/-- A beginning of what is owned. -/
theorem ownsRow_cut {w : World} {base : Nat} {e : TypeId} {ad : Option Addr} {n c k : Nat} {xs : List Value} (h : w.ownsRow base e 1 (.slice ad n c) n xs) (hk : k ≤ n) : w.ownsRow base e 1 (.slice ad k c) k (xs.take k) := by
  obtain ⟨h1, h2⟩ := h
  refine ⟨by rw [List.length_take]; omega, ?_⟩
  rcases h2 with ⟨hv, hn⟩ | ⟨g, cap, cur, hv, hg, hh, h3, h4, h5, h6⟩
  · injection hv with e1 e2 e3
    subst e1 e2 e3
    obtain rfl : k = 0 := by omega
    exact .inl ⟨rfl, rfl⟩
  · injection hv with e1 e2 e3
    subst e1 e3
    refine .inr ⟨g, c, cur, rfl, hg, hh, by omega, h4, h5, ?_⟩
    rw [← h6, List.take_take]
    congr 1
    omega
theorem byte_eq {m : Sim} {str : ByteArray} (hs : m.s = str.data.toList) {i : Nat} (hi : i < str.size) : m.byte i = (str[i]).toNat := by
  unfold Sim.byte
  rw [hs, List.getD_eq_getElem?_getD]
  have h1 : i < str.data.toList.length := by rw [Array.length_toList]; exact hi
  rw [List.getElem?_eq_getElem h1]
  rfl
theorem size_eq {m : Sim} {str : ByteArray} (hs : m.s = str.data.toList) : m.s.length = str.size := by rw [hs, Array.length_toList]; rfl
end Go.Proofs.YtjjhdddlbgdkeaaDoor

/- A simulation in memory with its stack and a list of threads: what a search may do to it. -/
namespace Go.Proofs.YtjjhdddlbgdkeaaDoor
open Go.RowKit

def Drawn (w w' : World) : Prop := ∃ m, w' = w.drewN m
theorem Drawn.refl (w : World) : Drawn w w := ⟨0, rfl⟩
theorem Drawn.trans {a b c : World} (h : Drawn a b) (k : Drawn b c) : Drawn a c := by
  obtain ⟨m, rfl⟩ := h
  obtain ⟨n, rfl⟩ := k
  exact ⟨m + n, World.drewN_drewN ..⟩
theorem Drawn.below {a b : World} (h : Drawn a b) : Below a.heap.size a b := by
  obtain ⟨m, rfl⟩ := h
  exact below_drewN (Below.refl _ _) _
def natV (k : Nat) : Value := .int .i64 k
def tcells (t : Nat × Nat) : List Value := [.int .i64 t.1, .int .i64 t.2]
def ob (v : Value) : List Nat := match v.ownBlock with | some g => [g] | none => []
theorem mem_ob {v : Value} {g : Nat} : g ∈ ob v ↔ v.ownBlock = some g := by
  unfold ob
  cases h : v.ownBlock with
  | none => simp
  | some x => simp [eq_comm]
/-- The program and the string of a simulation. -/
structure Env (wb : World) (m : Sim) (a : Option Addr) (str : ByteArray) : Prop where
  ins : InsAt wb a m.L
  right : rightAll m.L
  wf : ∀ k (h : k < m.L.length), m.L[k].set.wf
  s : m.s = str.data.toList
  short : str.size ≤ 1000000
section
variable {wb w0 w w' : World} {m : Sim} {M : Nat} {a : Option Addr} {c : Nat} {str : ByteArray} {st : Int} {sv0 lv0 : Value} {mk : Nat → Int} {sv : Value} {St : List Nat} {lv : Value} {T : List (Nat × Nat)}
theorem ob_slice (ad : Option Addr) (n c n' c' : Nat) : ob (.slice ad n c) = ob (.slice ad n' c') := by cases ad <;> rfl
end
theorem unv_le (mk : Nat → Int) (st : Int) : ∀ n, unv mk st n ≤ n
  | 0 => Nat.le_refl _
  | n + 1 => by
    have := unv_le mk st n
    unfold unv
    split <;> omega
theorem unv_congr {f g : Nat → Int} (st : Int) : ∀ n, (∀ k, k < n → f k = g k) → unv f st n = unv g st n
  | 0, _ => rfl
  | n + 1, h => by
    unfold unv
    rw [unv_congr st n (fun k hk => h k (by omega)), h n (by omega)]
/-- What a search still has to do, read from the memory. -/
def measW (w : World) (M : Nat) (st : Int) (n : Nat) : Nat := 3 * unv (fun k => match w.cell? ⟨M, 3 + k, none⟩ with | some (.int _ v) => v | _ => 0) st n + (match w.cell? ⟨M, 4100, none⟩ with | some (.slice _ l _) => l | _ => 0)
theorem own_at {sv : Value} {g n c H : Nat} (h : sv.ownBlock = some g ∨ g = H) : ∀ g', (Value.slice (some ⟨g, 0, none⟩) n c).ownBlock = some g' → sv.ownBlock = some g' ∨ H ≤ g' := by
  intro g' hg'
  have e : g = g' := by simpa [Value.ownBlock] using hg'
  subst e
  rcases h with h | h
  · exact .inl h
  · exact .inr (by omega)
theorem upd_V (mk : Nat → Int) (k : Nat) (st : Int) : (fun j => upd1 mk k st j = st) = (fun j => j = k ∨ mk j = st) := by
  funext j
  unfold upd1
  split
  · rename_i e; simp [e]
  · rename_i e; simp [e]
theorem upd_old {mk0 mk : Nat → Int} {st : Int} (h : ∀ j, mk j = st ∨ mk j = mk0 j) (k : Nat) : ∀ j, upd1 mk k st j = st ∨ upd1 mk k st j = mk0 j := by
  intro j
  unfold upd1
  split
  · exact .inl rfl
  · exact h j
theorem cells7 {w : World} {b f : Nat} {v0 v1 v2 v3 v4 v5 v6 : Value} (h : CellsAt w b f [v0, v1, v2, v3, v4, v5, v6]) :
    w.cell? ⟨b, f, none⟩ = some v0 ∧ w.cell? ⟨b, f + 1, none⟩ = some v1 ∧ w.cell? ⟨b, f + 2, none⟩ = some v2 ∧ w.cell? ⟨b, f + 3, none⟩ = some v3 ∧ w.cell? ⟨b, f + 4, none⟩ = some v4 ∧ w.cell? ⟨b, f + 5, none⟩ = some v5 ∧ w.cell? ⟨b, f + 6, none⟩ = some v6 :=
  ⟨by simpa using h 0 _ rfl, h 1 _ rfl, h 2 _ rfl, h 3 _ rfl, h 4 _ rfl, h 5 _ rfl, h 6 _ rfl⟩
theorem row7 {w : World} {B : Nat} {v0 v1 v2 v3 v4 v5 v6 : Value} {T : TypeId} (h : Row w B [v0, v1, v2, v3, v4, v5, v6] T) :
    w.cell? ⟨B, 0, none⟩ = some v0 ∧ w.cell? ⟨B, 1, none⟩ = some v1 ∧ w.cell? ⟨B, 2, none⟩ = some v2 ∧ w.cell? ⟨B, 3, none⟩ = some v3 ∧ w.cell? ⟨B, 4, none⟩ = some v4 ∧ w.cell? ⟨B, 5, none⟩ = some v5 ∧ w.cell? ⟨B, 6, none⟩ = some v6 :=
  ⟨h.cell 0, h.cell 1, h.cell 2, h.cell 3, h.cell 4, h.cell 5, h.cell 6⟩
end Go.Proofs.YtjjhdddlbgdkeaaDoor
