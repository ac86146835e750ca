/- The first parse that does: all trees; searches at an offset, and from an offset on. -/
import Derived.Test.YthnpbopnpdlmnaaD37
import Derived.Test.YthnpbopnpdlmnaaD22
import Derived.Test.YthnpbopnpdlmnaaD35
import Derived.Test.YthnpbopnpdlmnaaD36
namespace Go.Proofs.Ythnpbopnpdlmnaa
open Go.RowKit

section
variable (s : List UInt8) (lines : Bool)
theorem at_one (k i : Nat) (sp : Spans) (b : Bool) : at_ k (if b = true then [(i, sp)] else []) = if (decide (k = i) && b) = true then [(k, sp)] else [] := by
  unfold at_
  by_cases h : k = i
  · subst h
    cases b <;> simp
  · cases b
    · simp
    · simp [h]; omega
theorem leaf_at {N i k : Nat} {p : Pay} {xs : List Re} {sp : Spans} {l : List Parse} (hp : ¬ partOp p) (hik : i ≤ k) (hk : k ≤ s.length) (hsp : SpOk N s.length sp) (h : parses s lines (.mk p xs) i sp = some l) :
    at_ k l = if plainOf s lines p i k sp = true then [(k, sp)] else [] := by
  unfold partOp at hp
  rw [parses] at h
  unfold plainOf
  by_cases h1 : p.op = 1
  · rw [if_pos h1] at h ⊢
    have := Option.some.inj h; subst this
    have := at_one k i sp true
    rw [if_pos rfl, Bool.and_true] at this
    exact this
  rw [if_neg h1] at h ⊢
  by_cases h2 : p.op = 2
  · rw [if_pos h2] at h ⊢
    have := Option.some.inj h; subst this
    rw [at_one]
    have e : (decide (k = i + 1) && (decide (i < s.length) && p.set.has (byteAt s i).toNat)) = (decide (k = i + 1) && p.set.has (byteAt s i).toNat) := by
      by_cases hk1 : k = i + 1
      · have : i < s.length := by omega
        rw [decide_eq_true this, Bool.true_and]
      · rw [decide_eq_false hk1]
        simp
    exact congrArg (fun b => if b = true then [(k, sp)] else ([] : List Parse)) e
  rw [if_neg h2] at h ⊢
  rw [if_neg (by omega), if_neg (by omega), if_neg (by omega), if_neg (by omega)] at h
  by_cases h7 : p.op = 7
  · rw [if_pos h7] at h ⊢
    have := Option.some.inj h; subst this
    rw [at_one]
  rw [if_neg h7] at h ⊢
  by_cases h8 : p.op = 8
  · rw [if_pos h8] at h ⊢
    have := Option.some.inj h; subst this
    rw [at_one]
  rw [if_neg h8] at h ⊢
  have := Option.some.inj h; subst this
  rw [at_one]
  have hg : sp.getD (p.gr.toNat - 1) (-1, -1) = (-1, -1) ∨ 0 ≤ (sp.getD (p.gr.toNat - 1) (-1, -1)).1 ∧ (sp.getD (p.gr.toNat - 1) (-1, -1)).1 ≤ (sp.getD (p.gr.toNat - 1) (-1, -1)).2 := by
    rw [List.getD_eq_getElem?_getD]
    cases hx : sp[p.gr.toNat - 1]? with
    | none => exact .inl rfl
    | some x => rcases hsp.2 x (List.mem_of_getElem? hx) with h | h
                · exact .inl h
                · exact .inr ⟨h.1, h.2.1⟩
  generalize sp.getD (p.gr.toNat - 1) (-1, -1) = g at *
  have e : (decide (k = i + (g.2 - g.1).toNat) && (decide (0 ≤ g.1) && decide (i + (g.2 - g.1).toNat ≤ s.length) && decide ((s.drop i).take (g.2 - g.1).toNat = (s.drop g.1.toNat).take (g.2 - g.1).toNat))) = (decide (0 ≤ g.1) && decide ((k : Int) - i = g.2 - g.1) && decide ((s.drop i).take (k - i) = (s.drop g.1.toNat).take (k - i))) := by
    rcases hg with rfl | ⟨g1, g2⟩
    · simp
    · by_cases hk1 : k = i + (g.2 - g.1).toNat
      · have e1 : (k : Int) - i = g.2 - g.1 := by omega
        have e2 : k - i = (g.2 - g.1).toNat := by omega
        rw [e2, decide_eq_true hk1, decide_eq_true g1, decide_eq_true e1, decide_eq_true (show i + (g.2 - g.1).toNat ≤ s.length by omega)]
        simp
      · have e1 : ¬ ((k : Int) - i = g.2 - g.1) := by omega
        rw [decide_eq_false hk1, decide_eq_false e1]
        simp
  exact congrArg (fun b => if b = true then [(k, sp)] else ([] : List Parse)) e
mutual
theorem try_fst (N : Nat) : ∀ t : Re, t.ok N → t.reps → PartF s lines N t
  | .mk p xs, hok, hre => by
    intro i k sp l K n o m hik hk hsp hl he ho
    rw [Re.ok] at hok
    rw [Re.reps] at hre
    obtain ⟨⟨hop, -⟩, h34, h56, h69, hoks⟩ := hok
    have IH := parts_fst N xs hoks hre.2
    cases he with
    | tryOver => exact absurd rfl ho
    | leafFail h hp =>
      rw [leaf_at s lines h hik hk hsp hl, if_neg (by rw [hp]; decide)]
      exact .nil
    | leaf h hp hn =>
      rw [leaf_at s lines h hik hk hsp hl, if_pos hp]
      have : NextO s lines K (k, sp) o := ⟨_, _, hn⟩
      cases o with
      | found y => exact .hit this
      | fail => exact .miss this .nil
      | over => exact absurd rfl ho
    | tryCat h hn =>
      rw [parses, if_neg (by omega), if_neg (by omega), if_pos h] at hl
      obtain ⟨a, h1, h2⟩ := Option.bind_eq_some_iff.1 hl
      have h0 : ∀ q, q ∈ [(i, sp)] → POk N s.length i q := fun q hq => by have := List.mem_singleton.1 hq; subst this; exact ⟨Nat.le_refl _, by omega, hsp⟩
      rw [at_fin h2 fun q hq => (catP_ok s lines N xs _ a i hoks h0 h1 q hq).2.1]
      refine Fst.nub (NextO.fn s lines K) (cat_fst s lines hk xs [(i, sp)] a o (h34 (.inl h)) hoks IH h0 h1 ?_)
      unfold upto
      rw [List.filter_cons_of_pos (by simpa using hik)]
      have : CatO s lines xs k K (i, sp) o := ⟨_, _, hn⟩
      cases o with
      | found y => exact .hit this
      | fail => exact .miss this .nil
      | over => exact absurd rfl ho
    | tryAlt h hn =>
      rw [parses, if_neg (by omega), if_neg (by omega), if_neg (by omega), if_pos h] at hl
      obtain ⟨a, h1, h2⟩ := Option.bind_eq_some_iff.1 hl
      rw [at_fin h2 fun q hq => (altP_ok s lines N xs i sp a hoks (by omega) hsp h1 q hq).2.1]
      exact Fst.nub (NextO.fn s lines K) (alt_fst s lines hik hk hsp xs a _ _ _ IH h1 hn ho)
    | @tryRep p x _ _ _ _ _ _ _ h hn =>
      rw [parses, if_neg (by omega), if_neg (by omega), if_neg (by omega), if_neg (by omega), if_pos h] at hl
      obtain ⟨st, h1, h2⟩ := Option.bind_eq_some_iff.1 hl
      have e1 : withinAll [x] = withinOf x := by rw [withinAll, withinAll, List.append_nil]
      have e2 : firstP s lines [x] = parses s lines x := by funext a b; rw [firstP]
      rw [e1, e2] at h1
      rw [Re.oks] at hoks
      have hin : ∀ q, q ∈ st.2 → q.1 ≤ s.length := fun q hq =>
        (visit_inv (G := POk N s.length i) (fun j sp' l' hj hl q' hq' => by
          have := parses_ok s lines N x j _ l' hoks.1 hj.2.1 (hj.2.2.unset _) hl q' hq'
          exact ⟨Nat.le_trans hj.1 this.1, this.2⟩) _ _ _ st h1 ⟨Nat.le_refl _, Nat.le_trans hik hk, hsp⟩ (fun q hq => by cases hq) q hq).2.1
      rw [at_fin h2 hin]
      refine Fst.nub (NextO.fn s lines K) ?_
      obtain ⟨⟨a, e3, f⟩, -⟩ := visit_fst s lines (IH x (by simp)) hoks.1 (hre.1 h).2.1 hk _ 0 i sp _ st o h1 hsp (by omega) (fun v hv => by cases hv) ⟨_, _, hn⟩ ho
      rw [e3]
      exact f
    | @tryGroup p x _ _ _ _ _ _ _ h hn =>
      rw [parses, if_neg (by omega), if_neg (by omega), if_neg (by omega), if_neg (by omega), if_neg (by omega), if_pos h] at hl
      obtain ⟨a, h1, h2⟩ := Option.bind_eq_some_iff.1 hl
      rw [firstP] at h1
      rw [Re.oks] at hoks
      have hin : ∀ q, q ∈ (a.map fun q => (q.1, q.2.set (p.gr.toNat - 1) ((i : Int), (q.1 : Int)))) → q.1 ≤ s.length := fun q hq => by
        obtain ⟨q0, h3, rfl⟩ := List.mem_map.1 hq
        exact (parses_ok s lines N x i sp a hoks.1 (by omega) hsp h1 q0 h3).2.1
      rw [at_fin h2 hin]
      refine Fst.nub (NextO.fn s lines K) ?_
      have hx := IH x (by simp) i k sp a _ _ _ _ hik hk hsp h1 hn ho
      have e3 : at_ k (a.map fun q => (q.1, q.2.set (p.gr.toNat - 1) ((i : Int), (q.1 : Int)))) = (at_ k a).flatMap fun q => [(q.1, q.2.set (p.gr.toNat - 1) ((i : Int), (q.1 : Int)))] := by
        unfold at_
        rw [List.filter_map, ← List.map_eq_flatMap]
        rfl
      rw [e3]
      refine hx.flat fun q o' hq ho' hn' => ?_
      obtain ⟨n', m', hn'⟩ := hn'
      cases hn' with
      | nextMark hn' =>
        have : NextO s lines K (q.1, q.2.set (p.gr.toNat - 1) ((i : Int), (q.1 : Int))) o' := ⟨_, _, by rw [(at_mem hq).2]; exact hn'⟩
        cases o' with
        | found y => exact .hit this
        | fail => exact .miss this .nil
        | over => exact absurd rfl ho'
theorem parts_fst (N : Nat) : ∀ xs : List Re, Re.oks N xs → Re.repsAll xs → ∀ x, x ∈ xs → PartF s lines N x
  | [], _, _, x, hx => by cases hx
  | y :: ys, hok, hre, x, hx => by
    rw [Re.oks] at hok
    rw [Re.repsAll] at hre
    rcases List.mem_cons.1 hx with hx | hx
    · rw [hx]
      exact try_fst N y hok.1 hre.1
    · exact parts_fst N ys hok.2 hre.2 x hx
end
theorem fst_done {L : List Parse} {o : Out} (h : Fst (NextO s lines .done) L o) : (L = [] ∧ o = .fail) ∨ ∃ q L', L = q :: L' ∧ o = .found q.2 := by
  have hd : ∀ q o, NextO s lines .done q o → o = .found q.2 := by
    rintro q o ⟨n, m, h⟩
    cases h
    rfl
  cases h with
  | nil => exact .inl ⟨rfl, rfl⟩
  | hit h => exact .inr ⟨_, _, rfl, hd _ _ h⟩
  | miss h _ => cases hd _ _ h
theorem evat_fst {t : Re} {N i : Nat} {l : List Parse} (H : PartF s lines N t) (hl : parses s lines t i (unsetAll N) = some l) (hge : ∀ q, q ∈ l → i ≤ q.1) :
    ∀ (c n : Nat) (o : Out) (m : Nat), i + c ≤ s.length + 1 → EvAt s lines t N i c n o m → o ≠ .over → Fst (fun q o => o = .found (((i : Int), (q.1 : Int)) :: q.2)) (l.filter fun q => decide (q.1 < i + c)) o
  | 0, n, o, m, hc, h, ho => by
    cases h
    have : l.filter (fun q => decide (q.1 < i + 0)) = [] := by
      rw [List.filter_eq_nil_iff]
      intro q hq
      have := hge q hq
      simp; omega
    rw [this]
    exact .nil
  | c + 1, n, o, m, hc, h, ho => by
    rw [show i + (c + 1) = i + c + 1 by omega, desc_split l (i + c) (parses_neat hl).1]
    refine Fst.join ?_
    cases h with
    | over h => exact absurd rfl ho
    | hit h =>
      rcases fst_done s lines (H i (i + c) _ l _ _ _ _ (by omega) (by omega) (unsetAll_ok N s.length) hl h (by intro h; cases h)) with ⟨h1, h2⟩ | ⟨q, L', h1, h2⟩
      · cases h2
      · injection h2 with h2
        rw [h1]
        refine .inl ⟨_, rfl, .hit ?_⟩
        rw [h2, (at_mem (l := l) (k := i + c) (q := q) (by rw [h1]; simp)).2]
    | miss h hr =>
      rcases fst_done s lines (H i (i + c) _ l _ _ _ _ (by omega) (by omega) (unsetAll_ok N s.length) hl h (by intro h; cases h)) with ⟨h1, h2⟩ | ⟨q, L', h1, h2⟩
      · rw [h1]
        exact .inr ⟨.nil, evat_fst H hl hge c _ _ _ (by omega) hr ho⟩
      · cases h2
end
end Go.Proofs.Ythnpbopnpdlmnaa

/- Reback's laws, plainly; RebackBudget's walk. -/
namespace Go.Proofs.Ythnpbopnpdlmnaa
open Go.RowKit
attribute [local go_sem] gives givesUpon

def Out.lst : Out → Spans
  | .found l => l
  | _ => []
theorem SpB.lst {w w' : World} {v : Value} {o : Out} (h1 : ∀ l, o = .found l → SpB (w.heap.size ≤ ·) w' v l) (h2 : o.isFound = false → v = .slice none 0 0) : SpB (w.heap.size ≤ ·) w' v o.lst := by
  cases o with
  | found l => exact h1 l rfl
  | fail => exact .inl ⟨rfl, h2 rfl⟩
  | over => exact .inl ⟨rfl, h2 rfl⟩

end Go.Proofs.Ythnpbopnpdlmnaa

/- Reback finds what layer 9 finds, plainly. -/
namespace Go.Proofs.Ythnpbopnpdlmnaa
open Go.RowKit

theorem evat_head {t : Re} {s : ByteArray} {lines : Bool} {i n m : Nat} {o : Out} (he : t.err = 0) (hi : i ≤ s.size) (h : EvAt s.data.toList lines t t.groups i (s.size + 1 - i) n o m) (ho : o ≠ .over) (hr : (atR (parsesR t s i lines) i).2.2 ≠ 11) :
    o.lst = (atR (parsesR t s i lines) i).1 ∧ o.isFound = (atR (parsesR t s i lines) i).2.1 ∧ (atR (parsesR t s i lines) i).2.2 = 0 := by
  have hsl : s.data.toList.length = s.size := by rw [Array.length_toList]; rfl
  have hc : chk t s i = 0 := by
    unfold chk
    rw [if_neg (by simpa using he), if_neg (by omega)]
  have hok := Re.ok_err he
  revert hr
  unfold parsesR
  rw [if_neg (by simpa using hc), show ((i : Nat) : Int).toNat = i by omega]
  cases hp : parses s.data.toList lines t i (unsetAll t.groups) with
  | none => intro hr; exact absurd rfl hr
  | some l =>
    intro _
    have hl := parses_ok s.data.toList lines t.groups t i _ l hok.1 (by omega) (unsetAll_ok _ _) hp
    have h1 := evat_fst s.data.toList lines (try_fst s.data.toList lines t.groups t hok.1 (Re.reps_err he)) hp (fun q hq => (hl q hq).1) _ _ _ _ (by omega) h ho
    have e : l.filter (fun q => decide (q.1 < i + (s.size + 1 - i))) = l := by
      rw [List.filter_eq_self]
      intro q hq
      have := (hl q hq).2.1
      simp; omega
    rw [e] at h1
    cases h1 with
    | nil => exact ⟨rfl, rfl, rfl⟩
    | hit h2 => injection h2 with h2; subst h2; exact ⟨rfl, rfl, rfl⟩
    | miss h2 _ => cases h2
theorem finds_at {t : Re} {s : ByteArray} {at_ : Int} {lines : Bool} {B : Nat} {o : Out} {k x : Int} (h : Api t s at_ (fun _ => 1) lines B o k x) (hx : x ≠ 11) (hy : (atR (parsesR t s at_ lines) at_).2.2 ≠ 11) :
    o.lst = (atR (parsesR t s at_ lines) at_).1 ∧ o.isFound = (atR (parsesR t s at_ lines) at_).2.1 ∧ x = (atR (parsesR t s at_ lines) at_).2.2 := by
  rcases h with ⟨h0, rfl, rfl, rfl⟩ | ⟨h0, m, hm, h1, rfl, rfl⟩
  · have e : parsesR t s at_ lines = ([], chk t s at_) := by unfold parsesR; rw [if_pos h0]
    rw [e]
    exact ⟨rfl, rfl, rfl⟩
  · obtain ⟨he, ha1, ha2⟩ := chk_zero h0
    have hsl : s.data.toList.length = s.size := by rw [Array.length_toList]; rfl
    have ho : o ≠ .over := by rintro rfl; exact hx rfl
    have ha : ((at_.toNat : Nat) : Int) = at_ := by omega
    have hz : o.errno = 0 := by
      cases o with
      | over => exact absurd rfl ho
      | found l => rfl
      | fail => rfl
    rw [hz]
    rw [← ha] at hy ⊢
    have hh : ∀ {o' : Out} {m' : Nat}, EvAt s.data.toList lines t t.groups at_.toNat (s.data.toList.length + 1 - at_.toNat) B o' m' → o' ≠ .over → o'.lst = (atR (parsesR t s at_.toNat lines) at_.toNat).1 ∧ o'.isFound = (atR (parsesR t s at_.toNat lines) at_.toNat).2.1 ∧ (atR (parsesR t s at_.toNat lines) at_.toNat).2.2 = 0 := fun h ho => by
      rw [hsl] at h
      exact evat_head he (by omega) h ho hy
    cases h1 with
    | hit h _ => exact ⟨(hh h ho).1, (hh h ho).2.1, (hh h ho).2.2.symm⟩
    | miss h hr =>
      cases hr
      have h2 := hh h (by intro h; cases h)
      exact ⟨h2.1, h2.2.1, h2.2.2.symm⟩
end Go.Proofs.Ythnpbopnpdlmnaa

/- The ends of a tree's parses as a relation, plainly. -/
namespace Go.Proofs.Ythnpbopnpdlmnaa
open Go.RowKit

def Iter (R : Nat → Nat → Prop) : Nat → Nat → Nat → Prop
  | 0, i, j => j = i
  | n + 1, i, j => ∃ k, R i k ∧ Iter R n k j
section
variable (s : List UInt8) (lines : Bool)
mutual
def Re.E : Re → Nat → Nat → Prop
  | .mk p xs, i, j =>
    if p.op = 1 then j = i
    else if p.op = 2 then (i < s.length ∧ p.set.has (byteAt s i).toNat = true) ∧ j = i + 1
    else if p.op = 3 then Re.ECat xs i j
    else if p.op = 4 then Re.EAlt xs i j
    else if p.op = 5 then ∃ n : Nat, p.lo ≤ (n : Int) ∧ (p.hi < 0 ∨ (n : Int) ≤ p.hi) ∧ Iter (Re.EFirst xs) n i j
    else if p.op = 6 then Re.EFirst xs i j
    else if p.op = 7 then (i = 0 ∨ lines = true ∧ byteAt s (i - 1) = 10) ∧ j = i
    else if p.op = 8 then (i = s.length ∨ lines = true ∧ byteAt s i = 10) ∧ j = i
    else False
def Re.EFirst : List Re → Nat → Nat → Prop
  | [], _, _ => False
  | x :: _, i, j => x.E i j
def Re.EAlt : List Re → Nat → Nat → Prop
  | [], _, _ => False
  | x :: xs, i, j => x.E i j ∨ Re.EAlt xs i j
def Re.ECat : List Re → Nat → Nat → Prop
  | [], i, j => j = i
  | x :: xs, i, j => ∃ k, x.E i k ∧ Re.ECat xs k j
end
end
mutual
def Re.nob : Re → Prop
  | .mk p xs => (1 ≤ p.op ∧ p.op ≤ 8) ∧ Re.nobs xs
def Re.nobs : List Re → Prop
  | [] => True
  | x :: xs => x.nob ∧ Re.nobs xs
end
theorem iter_le {R : Nat → Nat → Prop} {L : Nat} (hR : ∀ i j, i ≤ L → R i j → i ≤ j ∧ j ≤ L) : ∀ (n i j : Nat), i ≤ L → Iter R n i j → i ≤ j ∧ j ≤ L
  | 0, i, j, hi, h => by rw [Iter] at h; omega
  | n + 1, i, j, hi, h => by
    obtain ⟨k, h1, h2⟩ := h
    have h3 := hR i k hi h1
    have h4 := iter_le hR n k j h3.2 h2
    omega
section
variable (s : List UInt8) (lines : Bool)
mutual
theorem Re.E_le : ∀ (t : Re) (i j : Nat), i ≤ s.length → t.E s lines i j → i ≤ j ∧ j ≤ s.length
  | .mk p xs, i, j, hi, h => by
    rw [Re.E] at h
    split at h
    · omega
    split at h
    · omega
    split at h
    · exact Re.ECat_le xs i j hi h
    split at h
    · exact Re.EAlt_le xs i j hi h
    split at h
    · obtain ⟨n, -, -, h⟩ := h
      exact iter_le (fun i j => Re.EFirst_le xs i j) n i j hi h
    split at h
    · exact Re.EFirst_le xs i j hi h
    split at h
    · omega
    split at h
    · omega
    · exact h.elim
theorem Re.EFirst_le : ∀ (xs : List Re) (i j : Nat), i ≤ s.length → Re.EFirst s lines xs i j → i ≤ j ∧ j ≤ s.length
  | [], i, j, _, h => by rw [Re.EFirst] at h; exact h.elim
  | x :: xs, i, j, hi, h => by rw [Re.EFirst] at h; exact Re.E_le x i j hi h
theorem Re.EAlt_le : ∀ (xs : List Re) (i j : Nat), i ≤ s.length → Re.EAlt s lines xs i j → i ≤ j ∧ j ≤ s.length
  | [], i, j, _, h => by rw [Re.EAlt] at h; exact h.elim
  | x :: xs, i, j, hi, h => by
    rw [Re.EAlt] at h
    rcases h with h | h
    · exact Re.E_le x i j hi h
    · exact Re.EAlt_le xs i j hi h
theorem Re.ECat_le : ∀ (xs : List Re) (i j : Nat), i ≤ s.length → Re.ECat s lines xs i j → i ≤ j ∧ j ≤ s.length
  | [], i, j, hi, h => by rw [Re.ECat] at h; omega
  | x :: xs, i, j, hi, h => by
    rw [Re.ECat] at h
    obtain ⟨k, h1, h2⟩ := h
    have h3 := Re.E_le x i k hi h1
    have h4 := Re.ECat_le xs k j h3.2 h2
    omega
end
end
theorem mapM_mem {α β : Type} {f : α → Option (List β)} : ∀ (l : List α) (m : List (List β)), l.mapM f = some m → ∀ q, q ∈ m.flatten ↔ ∃ a, a ∈ l ∧ ∃ b, f a = some b ∧ q ∈ b
  | [], m, h, q => by simp at h; subst h; simp
  | a :: l, m, h, q => by
    rw [List.mapM_cons] at h
    cases h1 : f a with
    | none => simp [h1] at h
    | some b0 =>
      cases h2 : l.mapM f with
      | none => simp [h1, h2] at h
      | some m0 =>
        simp [h1, h2] at h
        subst h
        have ih := mapM_mem l m0 h2 q
        rw [List.flatten_cons, List.mem_append, ih]
        constructor
        · rintro (h | ⟨a', h3, b, h4, h5⟩)
          · exact ⟨a, by simp, b0, h1, h⟩
          · exact ⟨a', by simp [h3], b, h4, h5⟩
        · rintro ⟨a', h3, b, h4, h5⟩
          rcases List.mem_cons.1 h3 with rfl | h3
          · rw [h1] at h4; rw [← Option.some.inj h4] at h5; exact .inl h5
          · exact .inr ⟨a', h3, b, h4, h5⟩
theorem mapM_some {α β : Type} {f : α → Option β} : ∀ (l : List α), (∀ a, a ∈ l → ∃ b, f a = some b) → ∃ m, l.mapM f = some m ∧ m.length = l.length
  | [], _ => ⟨[], rfl, rfl⟩
  | a :: l, h => by
    obtain ⟨b, hb⟩ := h a (by simp)
    obtain ⟨m, hm, hl⟩ := mapM_some l fun a ha => h a (by simp [ha])
    exact ⟨b :: m, by rw [List.mapM_cons, hb, hm]; rfl, by simp [hl]⟩
theorem fin_iff {L : Nat} {l m : List Parse} (h : fin L l = some m) (q : Parse) : q ∈ m ↔ q ∈ l ∧ q.1 ≤ L := by
  unfold fin at h
  split at h
  · cases h
  · have := Option.some.inj h; subst this
    rw [sortP_mem, nub_mem]
def Has (l : List Parse) (j : Nat) : Prop := ∃ q, q ∈ l ∧ q.1 = j
theorem fin_has {L : Nat} {l m : List Parse} (h : fin L l = some m) (hl : ∀ q, q ∈ l → q.1 ≤ L) (j : Nat) : Has m j ↔ Has l j := by
  refine exists_congr fun q => ?_
  rw [fin_iff h]
  exact ⟨fun h => ⟨h.1.1, h.2⟩, fun h => ⟨⟨h.1, hl q h.1⟩, h.2⟩⟩
section
variable (p : Pay) (gs : List Nat) (child : Nat → Spans → Option (List Parse)) (L : Nat) (R : Nat → Nat → Prop)
theorem rch_iter (hR : ∀ i sp l, i ≤ L → child i sp = some l → ∀ j, Has l j ↔ R i j) (hRL : ∀ i j, i ≤ L → R i j → i ≤ j ∧ j ≤ L) {v u : Sit} (h : Rch p gs child v u) : v.2.1 ≤ L → ∃ n, Iter R n v.2.1 u.2.1 ∧ (p.hi < 0 → u.1 ≤ v.1 + n) ∧ (¬ p.hi < 0 → u.1 = v.1 + n ∧ ((v.1 : Int) ≤ p.hi → (u.1 : Int) ≤ p.hi)) := by
  induction h with
  | refl v => intro _; exact ⟨0, rfl, fun _ => Nat.le_refl _, fun _ => ⟨rfl, id⟩⟩
  | @step v u z h _ ih =>
    intro hv
    obtain ⟨hg, l, hl, q, hq, hn, rfl⟩ := h
    have h1 := (hR _ _ _ hv hl q.1).1 ⟨q, hq, rfl⟩
    obtain ⟨n, h2, h3, h4⟩ := ih (hRL _ _ hv h1).2
    refine ⟨n + 1, ⟨q.1, h1, h2⟩, fun h => ?_, fun h => ?_⟩
    · have := h3 h
      dsimp only at this
      unfold clampC at this
      split at this <;> omega
    · have := h4 h
      dsimp only at this
      have h8 : clampC p (v.1 + 1) = v.1 + 1 := by unfold clampC; rw [if_neg (fun h' => h h'.1)]
      rw [h8] at this
      refine ⟨by omega, fun h9 => this.2 ?_⟩
      rcases hg with hg | hg
      · exact absurd hg h
      · omega
theorem iter_rch (hR : ∀ i sp l, i ≤ L → child i sp = some l → ∀ j, Has l j ↔ R i j) (hRL : ∀ i j, i ≤ L → R i j → i ≤ j ∧ j ≤ L) {v0 : Sit} (hkid : ∀ v, Rch p gs child v0 v → (p.hi < 0 ∨ (v.1 : Int) < p.hi) → ∃ l, child v.2.1 (unset v.2.2 gs) = some l) : ∀ (n c i : Nat) (sp : Spans) (j : Nat), i ≤ L → Rch p gs child v0 (c, i, sp) → Iter R n i j → p.lo ≤ (c + n : Int) → (p.hi < 0 ∨ (c + n : Int) ≤ p.hi) →
    ∃ (c' : Nat) (sp' : Spans), Rch p gs child v0 (c', j, sp') ∧ p.lo ≤ (c' : Int)
  | 0, c, i, sp, j, hi, hr, h, h1, h2 => by
    rw [Iter] at h
    subst h
    exact ⟨c, sp, hr, by omega⟩
  | n + 1, c, i, sp, j, hi, hr, h, h1, h2 => by
    obtain ⟨k, h3, h4⟩ := h
    by_cases hs : k = i ∧ p.lo ≤ (c : Int)
    · obtain ⟨rfl, hs⟩ := hs
      exact iter_rch hR hRL hkid n c k sp j hi hr h4 (by omega) (by omega)
    · have hg : p.hi < 0 ∨ (c : Int) < p.hi := by omega
      obtain ⟨l, hl⟩ := hkid _ hr hg
      obtain ⟨q, hq, rfl⟩ := (hR _ _ _ hi hl k).2 h3
      have hN : Nxt p gs child (c, i, sp) (clampC p (c + 1), q) := ⟨hg, l, hl, q, hq, hs, rfl⟩
      refine iter_rch hR hRL hkid n (clampC p (c + 1)) q.1 q.2 j (hRL _ _ hi h3).2 (hr.trans p gs child (.step hN (.refl _))) h4 ?_ ?_
      · unfold clampC; split <;> omega
      · unfold clampC; split <;> omega
theorem visit_has (hR : ∀ i sp l, i ≤ L → child i sp = some l → ∀ j, Has l j ↔ R i j) (hRL : ∀ i j, i ≤ L → R i j → i ≤ j ∧ j ≤ L) {f i : Nat} {sp : Spans} {st : List Sit × List Parse} (h : visit p gs child f (0, i, sp) ([], []) = some st) (hi : i ≤ L) (j : Nat) : Has st.2 j ↔ ∃ n : Nat, p.lo ≤ (n : Int) ∧ (p.hi < 0 ∨ (n : Int) ≤ p.hi) ∧ Iter R n i j := by
  obtain ⟨h1, h2⟩ := visit_all p gs child h
  have h0 : clampC p 0 = 0 := by unfold clampC; split <;> omega
  dsimp only at h1 h2
  rw [h0] at h1 h2
  constructor
  · rintro ⟨q, hq, rfl⟩
    obtain ⟨c, h3, h4⟩ := (h2 q).1 hq
    obtain ⟨n, h5, h6, h7⟩ := rch_iter p gs child L R hR hRL h3 hi
    dsimp only at h5 h6 h7
    by_cases hh : p.hi < 0
    · exact ⟨n, by have := h6 hh; omega, .inl hh, h5⟩
    · have := h7 hh
      exact ⟨n, by omega, .inr (by omega), h5⟩
  · rintro ⟨n, h3, h4, h5⟩
    obtain ⟨c, sp', h6, h7⟩ := iter_rch p gs child L R hR hRL h1 n 0 i sp j hi (.refl _) h5 (by omega) (by omega)
    exact ⟨(j, sp'), (h2 _).2 ⟨c, h6, h7⟩, rfl⟩
end
section
variable (s : List UInt8) (lines : Bool)
theorem has_one (i : Nat) (sp : Spans) (j : Nat) : Has [(i, sp)] j ↔ j = i := by unfold Has; simp [eq_comm]
theorem has_nil (j : Nat) : ¬ Has [] j := by unfold Has; simp
mutual
theorem parses_E : ∀ (t : Re) (i : Nat) (sp : Spans) (l : List Parse), t.nob → i ≤ s.length → parses s lines t i sp = some l → ∀ j, Has l j ↔ t.E s lines i j
  | .mk p xs, i, sp, l, hb, hi, h, j => by
    rw [Re.nob] at hb
    obtain ⟨⟨hop1, hop8⟩, hb⟩ := hb
    rw [parses] at h
    rw [Re.E]
    split at h
    · rename_i h1
      rw [if_pos h1]
      have := Option.some.inj h; subst this
      exact has_one _ _ _
    rename_i h1
    rw [if_neg h1]
    split at h
    · rename_i h2
      rw [if_pos h2]
      have := Option.some.inj h; subst this
      split
      · rename_i hc
        rw [Bool.and_eq_true, decide_eq_true_eq] at hc
        rw [has_one]
        exact ⟨fun h => ⟨hc, h⟩, fun h => h.2⟩
      · rename_i hc
        rw [Bool.and_eq_true, decide_eq_true_eq] at hc
        exact ⟨fun h => absurd h (has_nil j), fun h => absurd h.1 hc⟩
    rename_i h2
    rw [if_neg h2]
    split at h
    · rename_i h3
      rw [if_pos h3]
      obtain ⟨m, h4, h5⟩ := Option.bind_eq_some_iff.1 h
      have hc := catP_E xs [(i, sp)] m hb (fun q hq => by rw [List.mem_singleton.1 hq]; exact hi) h4
      rw [fin_has h5 hc.2, hc.1 j]
      constructor
      · rintro ⟨q, hq, hE⟩; rw [List.mem_singleton.1 hq] at hE; exact hE
      · intro hE; exact ⟨(i, sp), by simp, hE⟩
    rename_i h3
    rw [if_neg h3]
    split at h
    · rename_i h4
      rw [if_pos h4]
      obtain ⟨m, h5, h6⟩ := Option.bind_eq_some_iff.1 h
      have hc := altP_E xs i sp m hb hi h5
      rw [fin_has h6 (fun q hq => (Re.EAlt_le s lines xs i q.1 hi ((hc q.1).1 ⟨q, hq, rfl⟩)).2), hc j]
    rename_i h4
    rw [if_neg h4]
    split at h
    · rename_i h5
      rw [if_pos h5]
      obtain ⟨st, h6, h7⟩ := Option.bind_eq_some_iff.1 h
      have hc := visit_has p (withinAll xs) (firstP s lines xs) s.length (Re.EFirst s lines xs) (fun i sp l hi hl j => firstP_E xs i sp l hb hi hl j) (fun i j => Re.EFirst_le s lines xs i j) h6 hi
      rw [fin_has h7 (fun q hq => ?_), hc j]
      obtain ⟨n, -, -, hn⟩ := (hc q.1).1 ⟨q, hq, rfl⟩
      exact (iter_le (fun i j => Re.EFirst_le s lines xs i j) n i q.1 hi hn).2
    rename_i h5
    rw [if_neg h5]
    split at h
    · rename_i h6
      rw [if_pos h6]
      obtain ⟨m, h7, h8⟩ := Option.bind_eq_some_iff.1 h
      have hc := firstP_E xs i sp m hb hi h7
      have hm : ∀ k, Has (m.map fun q => (q.1, q.2.set (p.gr.toNat - 1) ((i : Int), (q.1 : Int)))) k ↔ Has m k := by
        intro k
        constructor
        · rintro ⟨q, hq, rfl⟩
          obtain ⟨q0, h9, rfl⟩ := List.mem_map.1 hq
          exact ⟨q0, h9, rfl⟩
        · rintro ⟨q0, h9, rfl⟩
          exact ⟨_, List.mem_map.2 ⟨q0, h9, rfl⟩, rfl⟩
      rw [fin_has h8 (fun q hq => (Re.EFirst_le s lines xs i q.1 hi ((hc q.1).1 ((hm _).1 ⟨q, hq, rfl⟩))).2), hm, hc j]
    rename_i h6
    rw [if_neg h6]
    split at h
    · rename_i h7
      rw [if_pos h7]
      have := Option.some.inj h; subst this
      split
      · rename_i hc
        rw [Bool.or_eq_true, Bool.and_eq_true, decide_eq_true_eq, decide_eq_true_eq] at hc
        rw [has_one]
        exact ⟨fun h => ⟨hc, h⟩, fun h => h.2⟩
      · rename_i hc
        rw [Bool.or_eq_true, Bool.and_eq_true, decide_eq_true_eq, decide_eq_true_eq] at hc
        exact ⟨fun h => absurd h (has_nil j), fun h => absurd h.1 hc⟩
    rename_i h7
    rw [if_neg h7]
    split at h
    · rename_i h8
      rw [if_pos h8]
      have := Option.some.inj h; subst this
      split
      · rename_i hc
        rw [Bool.or_eq_true, Bool.and_eq_true, decide_eq_true_eq, decide_eq_true_eq] at hc
        rw [has_one]
        exact ⟨fun h => ⟨hc, h⟩, fun h => h.2⟩
      · rename_i hc
        rw [Bool.or_eq_true, Bool.and_eq_true, decide_eq_true_eq, decide_eq_true_eq] at hc
        exact ⟨fun h => absurd h (has_nil j), fun h => absurd h.1 hc⟩
    · exfalso; omega
theorem firstP_E : ∀ (xs : List Re) (i : Nat) (sp : Spans) (l : List Parse), Re.nobs xs → i ≤ s.length → firstP s lines xs i sp = some l → ∀ j, Has l j ↔ Re.EFirst s lines xs i j
  | [], i, sp, l, _, _, h, j => by rw [firstP] at h; cases h
  | x :: xs, i, sp, l, hb, hi, h, j => by
    rw [firstP] at h
    rw [Re.nobs] at hb
    rw [Re.EFirst]
    exact parses_E x i sp l hb.1 hi h j
theorem altP_E : ∀ (xs : List Re) (i : Nat) (sp : Spans) (l : List Parse), Re.nobs xs → i ≤ s.length → altP s lines xs i sp = some l → ∀ j, Has l j ↔ Re.EAlt s lines xs i j
  | [], i, sp, l, _, _, h, j => by
    rw [altP] at h; have := Option.some.inj h; subst this
    rw [Re.EAlt]
    exact ⟨fun h => absurd h (has_nil j), fun h => h.elim⟩
  | x :: xs, i, sp, l, hb, hi, h, j => by
    rw [altP] at h
    rw [Re.nobs] at hb
    simp only [Option.bind_eq_some_iff] at h
    obtain ⟨a, h1, b, h2, h3⟩ := h
    have := Option.some.inj h3; subst this
    rw [Re.EAlt, ← parses_E x i sp a hb.1 hi h1 j, ← altP_E xs i sp b hb.2 hi h2 j]
    unfold Has
    constructor
    · rintro ⟨q, hq, e⟩
      rcases List.mem_append.1 hq with hq | hq
      · exact .inl ⟨q, hq, e⟩
      · exact .inr ⟨q, hq, e⟩
    · rintro (⟨q, hq, e⟩ | ⟨q, hq, e⟩)
      · exact ⟨q, List.mem_append.2 (.inl hq), e⟩
      · exact ⟨q, List.mem_append.2 (.inr hq), e⟩
theorem catP_E : ∀ (xs : List Re) (l m : List Parse), Re.nobs xs → (∀ q, q ∈ l → q.1 ≤ s.length) → catP s lines xs l = some m → (∀ j, Has m j ↔ ∃ q, q ∈ l ∧ Re.ECat s lines xs q.1 j) ∧ ∀ q, q ∈ m → q.1 ≤ s.length
  | [], l, m, _, hl, h => by
    rw [catP] at h; have := Option.some.inj h; subst this
    refine ⟨fun j => ?_, hl⟩
    unfold Has
    simp only [Re.ECat]
    exact ⟨fun ⟨q, h1, h2⟩ => ⟨q, h1, h2.symm⟩, fun ⟨q, h1, h2⟩ => ⟨q, h1, h2.symm⟩⟩
  | x :: xs, l, m, hb, hl, h => by
    rw [catP] at h
    rw [Re.nobs] at hb
    rw [Option.bind_eq_some_iff] at h
    obtain ⟨ms, h1, h2⟩ := h
    split at h2
    · cases h2
    have hmem : ∀ q, q ∈ nub ms.flatten ↔ ∃ a, a ∈ l ∧ ∃ b, parses s lines x a.1 a.2 = some b ∧ q ∈ b := fun q => by rw [nub_mem, mapM_mem l ms h1]
    have hE : ∀ k, Has (nub ms.flatten) k ↔ ∃ a, a ∈ l ∧ x.E s lines a.1 k := by
      intro k
      constructor
      · rintro ⟨q, hq, rfl⟩
        obtain ⟨a, ha, b, hb1, hb2⟩ := (hmem q).1 hq
        exact ⟨a, ha, (parses_E x a.1 a.2 b hb.1 (hl a ha) hb1 q.1).1 ⟨q, hb2, rfl⟩⟩
      · rintro ⟨a, ha, hk⟩
        obtain ⟨b, hb1⟩ : ∃ b, parses s lines x a.1 a.2 = some b := by
          cases hp : parses s lines x a.1 a.2 with
          | some b => exact ⟨b, rfl⟩
          | none =>
            exfalso
            have : ∀ (l : List Parse) (ms : List (List Parse)), l.mapM (fun q => parses s lines x q.1 q.2) = some ms → a ∈ l → False := by
              intro l
              induction l with
              | nil => intro ms _ h; cases h
              | cons c l ih =>
                intro ms h hm
                rw [List.mapM_cons] at h
                cases hc : parses s lines x c.1 c.2 with
                | none => simp [hc] at h
                | some b0 =>
                  cases h2 : l.mapM (fun q => parses s lines x q.1 q.2) with
                  | none => simp [hc, h2] at h
                  | some m0 =>
                    rcases List.mem_cons.1 hm with rfl | hm
                    · rw [hp] at hc; cases hc
                    · exact ih m0 h2 hm
            exact this l ms h1 ha
        obtain ⟨q, hq, rfl⟩ := (parses_E x a.1 a.2 b hb.1 (hl a ha) hb1 k).2 hk
        exact ⟨q, (hmem q).2 ⟨a, ha, b, hb1, hq⟩, rfl⟩
    have hl2 : ∀ q, q ∈ nub ms.flatten → q.1 ≤ s.length := fun q hq => by
      obtain ⟨a, ha, hk⟩ := (hE q.1).1 ⟨q, hq, rfl⟩
      exact (Re.E_le s lines x a.1 q.1 (hl a ha) hk).2
    obtain ⟨h3, h4⟩ := catP_E xs (nub ms.flatten) m hb.2 hl2 h2
    refine ⟨fun j => ?_, h4⟩
    rw [h3 j]
    simp only [Re.ECat]
    constructor
    · rintro ⟨q, hq, hk⟩
      obtain ⟨a, ha, h5⟩ := (hE q.1).1 ⟨q, hq, rfl⟩
      exact ⟨a, ha, q.1, h5, hk⟩
    · rintro ⟨a, ha, k, h5, hk⟩
      obtain ⟨q, hq, rfl⟩ := (hE k).2 ⟨a, ha, h5⟩
      exact ⟨q, hq, hk⟩
end
end
end Go.Proofs.Ythnpbopnpdlmnaa
