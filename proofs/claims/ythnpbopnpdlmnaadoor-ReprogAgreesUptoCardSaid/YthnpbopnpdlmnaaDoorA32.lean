/- The reference of the parses: the contract; trees without parts. -/
import Derived.Test.YthnpbopnpdlmnaaDoorA31
import Derived.Test.YthnpbopnpdlmnaaDoorA16
import Derived.Deep.AppendLies
namespace Go.Proofs.YthnpbopnpdlmnaaDoor
open Go.RowKit
attribute [local go_sem] gives givesUpon

theorem fin_len {L : Nat} {l m : List Parse} (h : fin L l = some m) (hl : ∀ q, q ∈ l → q.1 ≤ L) : m.length ≤ 4096 := by
  unfold fin at h
  split at h
  · cases h
  · rename_i h1
    have := Option.some.inj h
    subst this
    rw [sortP_length (fun q hq => hl q (nub_mem.1 hq))]
    unfold most at h1
    omega
theorem sortP_one {L : Nat} {q : Parse} (h : q.1 ≤ L) : sortP L [q] = [q] := (desc_classes [q] (by simp) L (fun x hx => by rw [List.mem_singleton.1 hx]; exact h)).symm
theorem fin_one {L : Nat} {q : Parse} (h : q.1 ≤ L) : fin L [q] = some [q] := by
  unfold fin
  have : nub [q] = [q] := rfl
  rw [this, if_neg (by simp [most]), sortP_one h]
theorem fin_nil (L : Nat) : fin L [] = some [] := by
  unfold fin
  have : nub ([] : List Parse) = [] := rfl
  rw [this, if_neg (by simp [most])]
  congr 1
  unfold sortP; simp
theorem parses_len {s : List UInt8} {lines : Bool} {N : Nat} {t : Re} {i : Nat} {sp : Spans} {l : List Parse} (hok : t.ok N) (hi : i ≤ s.length) (hsp : SpOk N s.length sp) (h : parses s lines t i sp = some l) : l.length ≤ 4096 := by
  cases t with
  | mk p xs =>
    have hok' := hok
    rw [Re.ok] at hok'
    obtain ⟨-, -, -, -, hoks⟩ := hok'
    rw [parses] at h
    split at h
    · have := Option.some.inj h; subst this; simp
    split at h
    · have := Option.some.inj h; subst this; split <;> simp
    split at h
    · rw [Option.bind_eq_some_iff] at h
      obtain ⟨m, h1, h2⟩ := h
      exact fin_len h2 fun q hq => (catP_ok s lines N xs [(i, sp)] m i hoks (fun q hq => by have := List.mem_singleton.1 hq; subst this; exact ⟨Nat.le_refl _, hi, hsp⟩) h1 q hq).2.1
    split at h
    · rw [Option.bind_eq_some_iff] at h
      obtain ⟨m, h1, h2⟩ := h
      exact fin_len h2 fun q hq => (altP_ok s lines N xs i sp m hoks hi hsp h1 q hq).2.1
    split at h
    · rw [Option.bind_eq_some_iff] at h
      obtain ⟨st, h1, h2⟩ := h
      refine fin_len h2 fun q hq => (visit_inv (G := POk N s.length i) (fun j sp' l' hj hl q' hq' => ?_) _ _ _ st h1 ⟨Nat.le_refl _, hi, hsp⟩ (fun q hq => by cases hq) q hq).2.1
      have := firstP_ok s lines N xs j (unset sp' (withinAll xs)) l' hoks hj.2.1 (hj.2.2.unset _) hl q' hq'
      exact ⟨Nat.le_trans hj.1 this.1, this.2⟩
    split at h
    · rw [Option.bind_eq_some_iff] at h
      obtain ⟨m, h1, h2⟩ := h
      refine fin_len h2 fun q hq => ?_
      obtain ⟨q0, hq0, rfl⟩ := List.mem_map.1 hq
      exact (firstP_ok s lines N xs i sp m hoks hi hsp h1 q0 hq0).2.1
    split at h
    · have := Option.some.inj h; subst this; split <;> simp
    split at h
    · have := Option.some.inj h; subst this; split <;> simp
    · have := Option.some.inj h; subst this; split <;> simp

end Go.Proofs.YthnpbopnpdlmnaaDoor

/- The reference of the parses: a group. -/
namespace Go.Proofs.YthnpbopnpdlmnaaDoor
open Go.RowKit
attribute [local go_sem] gives givesUpon

end Go.Proofs.YthnpbopnpdlmnaaDoor

/- The reference of the parses: alternatives. -/
namespace Go.Proofs.YthnpbopnpdlmnaaDoor
open Go.RowKit
attribute [local go_sem] gives givesUpon

section
variable (s : List UInt8) (lines : Bool)
theorem altP_app : ∀ (a b : List Re) (i : Nat) (sp : Spans), altP s lines (a ++ b) i sp = (altP s lines a i sp).bind fun l => (altP s lines b i sp).bind fun m => some (l ++ m)
  | [], b, i, sp => by
    rw [List.nil_append, altP]
    cases altP s lines b i sp <;> rfl
  | x :: a, b, i, sp => by
    rw [List.cons_append, altP, altP_app a b, altP]
    cases parses s lines x i sp with
    | none => rfl
    | some l =>
      cases altP s lines a i sp with
      | none => rfl
      | some m =>
        cases altP s lines b i sp with
        | none => rfl
        | some m2 => simp
theorem altP_one (x : Re) (i : Nat) (sp : Spans) : altP s lines [x] i sp = parses s lines x i sp := by
  rw [altP]
  cases parses s lines x i sp with
  | none => rfl
  | some l => simp [altP]
theorem altP_step {xs : List Re} {k i : Nat} {sp : Spans} {L m : List Parse} (hk : k < xs.length) (h : altP s lines (xs.take k) i sp = some L) (hm : parses s lines xs[k] i sp = some m) : altP s lines (xs.take (k + 1)) i sp = some (L ++ m) := by
  rw [List.take_add_one, List.getElem?_eq_getElem hk]
  show altP s lines (_ ++ [xs[k]]) i sp = _
  rw [altP_app, h, altP_one, hm]
  rfl
theorem altP_none {xs : List Re} {k i : Nat} {sp : Spans} (hk : k < xs.length) (hm : parses s lines xs[k] i sp = none) : altP s lines xs i sp = none := by
  have e : xs = xs.take k ++ (xs[k] :: xs.drop (k + 1)) := by rw [← List.drop_eq_getElem_cons hk, List.take_append_drop]
  rw [e, altP_app, altP, hm]
  cases altP s lines (xs.take k) i sp <;> rfl
end
theorem sizes_len9 : ∀ xs : List Re, xs.length ≤ Re.sizes xs
  | [] => Nat.le_refl _
  | x :: xs => by
    have := sizes_len9 xs
    have h1 : Re.sizes (x :: xs) = x.size + Re.sizes xs := rfl
    have h2 : 1 ≤ x.size := by cases x; rw [Re.size_mk]; omega
    rw [List.length_cons]; omega
theorem size_kid9 : ∀ (xs : List Re) (k : Nat) (h : k < xs.length), xs[k].size ≤ Re.sizes xs
  | x :: xs, 0, _ => by have h1 : Re.sizes (x :: xs) = x.size + Re.sizes xs := rfl; show x.size ≤ _; omega
  | x :: xs, k + 1, h => by
    have h1 : Re.sizes (x :: xs) = x.size + Re.sizes xs := rfl
    have hk : k < xs.length := by simpa using h
    have := size_kid9 xs k hk; show (xs[k]'hk).size ≤ _; omega

end Go.Proofs.YthnpbopnpdlmnaaDoor

/- The reference of the parses: trees one after the other. -/
namespace Go.Proofs.YthnpbopnpdlmnaaDoor
open Go.RowKit
attribute [local go_sem] gives givesUpon

section
variable (s : List UInt8) (lines : Bool)
def stepP (x : Re) (l : List Parse) : Option (List Parse) := (l.mapM fun q => parses s lines x q.1 q.2).bind fun ms => if most < (nub ms.flatten).length then none else some (nub ms.flatten)
theorem catP_cons (x : Re) (xs : List Re) (l : List Parse) : catP s lines (x :: xs) l = (stepP s lines x l).bind (catP s lines xs) := by
  rw [catP]
  unfold stepP
  cases (l.mapM fun q => parses s lines x q.1 q.2) with
  | none => rfl
  | some ms =>
    simp only [Option.bind_some]
    split <;> rfl
theorem catP_app : ∀ (a b : List Re) (l : List Parse), catP s lines (a ++ b) l = (catP s lines a l).bind (catP s lines b)
  | [], b, l => by rw [List.nil_append, catP]; rfl
  | x :: a, b, l => by
    rw [List.cons_append, catP_cons, catP_cons]
    cases stepP s lines x l with
    | none => rfl
    | some m => simp only [Option.bind_some]; exact catP_app a b m
theorem catP_step {xs : List Re} {k : Nat} {l0 l m : List Parse} (hk : k < xs.length) (h : catP s lines (xs.take k) l0 = some l) (hm : stepP s lines xs[k] l = some m) : catP s lines (xs.take (k + 1)) l0 = some m := by
  rw [List.take_add_one, List.getElem?_eq_getElem hk]
  show catP s lines (_ ++ [xs[k]]) l0 = _
  rw [catP_app, h]
  simp only [Option.bind_some]
  rw [catP_cons, hm]
  simp only [Option.bind_some]
  rw [catP]
theorem catP_none {xs : List Re} {k : Nat} {l0 l : List Parse} (hk : k < xs.length) (h : catP s lines (xs.take k) l0 = some l) (hm : stepP s lines xs[k] l = none) : catP s lines xs l0 = none := by
  have e : xs = xs.take k ++ (xs[k] :: xs.drop (k + 1)) := by rw [← List.drop_eq_getElem_cons hk, List.take_append_drop]
  rw [e, catP_app, h]
  simp only [Option.bind_some]
  rw [catP_cons, hm]
  rfl
theorem mapM_split {f : Parse → Option (List Parse)} {l : List Parse} {k : Nat} {q : Parse} (h : l[k]? = some q) : l.mapM f = ((l.take k).mapM f).bind fun ms => (f q).bind fun m => ((l.drop (k + 1)).mapM f).bind fun ms2 => some (ms ++ m :: ms2) := by
  have hk : k < l.length := (List.getElem?_eq_some_iff.1 h).1
  have e : l = l.take k ++ (q :: l.drop (k + 1)) := by
    have := List.drop_eq_getElem_cons hk
    rw [List.getElem?_eq_getElem hk] at h
    rw [Option.some.inj h] at this
    rw [← this, List.take_append_drop]
  conv => lhs; rw [e]
  rw [List.mapM_append, List.mapM_cons]
  cases (l.take k).mapM f with
  | none => rfl
  | some ms =>
    cases f q with
    | none => rfl
    | some m =>
      cases (l.drop (k + 1)).mapM f with
      | none => rfl
      | some ms2 => rfl
theorem mapM_step {f : Parse → Option (List Parse)} {l : List Parse} {k : Nat} {q : Parse} {ms : List (List Parse)} {m : List Parse} (h : l[k]? = some q) (h1 : (l.take k).mapM f = some ms) (h2 : f q = some m) : (l.take (k + 1)).mapM f = some (ms ++ [m]) := by
  rw [List.take_add_one, h, List.mapM_append, h1]
  simp [h2]
theorem stepP_none {x : Re} {l : List Parse} {k : Nat} {q : Parse} {ms : List (List Parse)} (h : l[k]? = some q) (h1 : (l.take k).mapM (fun q => parses s lines x q.1 q.2) = some ms) (h2 : parses s lines x q.1 q.2 = none) : stepP s lines x l = none := by
  unfold stepP
  rw [mapM_split h, h1]
  simp [h2]
end
end Go.Proofs.YthnpbopnpdlmnaaDoor

/- The reference of the parses: situations that were visited. -/
namespace Go.Proofs.YthnpbopnpdlmnaaDoor
open Go.RowKit
attribute [local go_sem] gives givesUpon

section
variable {s : ByteArray} {lines : Bool} {E0 E1 E2 E3 E4 E5 E6 E7 E8 : Value} {base X : Nat} {sv ov : Value} {seen : List Sit} {out : List Parse}
end
theorem Row.three9 {w : World} {B : Nat} {a b c : Value} {T : TypeId} (h : Row w B [a, b, c] T) : w.cell? ⟨B, 0, none⟩ = some a ∧ w.cell? ⟨B, 1, none⟩ = some b ∧ w.cell? ⟨B, 2, none⟩ = some c := ⟨h.cell 0, h.cell 1, h.cell 2⟩
end Go.Proofs.YthnpbopnpdlmnaaDoor

/- A region that draws its order and holds one call, for which all that comes before it is needed, and whose last operation stores what the call handed back. Nothing here speaks of the program. -/
namespace Go.Proofs.YthnpbopnpdlmnaaDoor
open Go.RowKit

section
variable {P : Program} {ops : Array Oper} {Q : Exit → Act → World → Prop}

end
end Go.Proofs.YthnpbopnpdlmnaaDoor

/- The reference of the parses: what a visit may change. -/
namespace Go.Proofs.YthnpbopnpdlmnaaDoor
open Go.RowKit
attribute [local go_sem] gives givesUpon

def blk (v : Value) : List Nat := v.ownBlock.toList
theorem mem_blk {v : Value} {g : Nat} : g ∈ blk v ↔ v.ownBlock = some g := by unfold blk; simp
section
variable {s : ByteArray} {lines : Bool} {E0 E1 E2 E3 E4 E5 E6 E7 E8 : Value} {base X : Nat} {sv ov : Value} {seen : List Sit} {out : List Parse}
end
def StOk (N L : Nat) (st : List Sit × List Parse) : Prop := (∀ y, y ∈ st.1 → y.2.2.length ≤ 9) ∧ st.1.length ≤ 4096 ∧ st.2.length ≤ st.1.length ∧ ∀ q, q ∈ st.2 → POk N L 0 q
end Go.Proofs.YthnpbopnpdlmnaaDoor

/- The program of layer 9: anchors, and adding a parse. -/
namespace Go.Proofs.YthnpbopnpdlmnaaDoor
open Go.RowKit
attribute [local go_sem] gives givesUpon

set_option maxRecDepth 100000 in
set_option maxHeartbeats 8000000 in
theorem pbegins_any (w : World) (M : Nat) (s : ByteArray) (lines : Bool) (i : Nat) (hM : Row w M [.string s, .bool lines] 67) (hi : i ≤ s.size) (hs : s.size ≤ 1000000) :
    Calls Tryd.prog 47 #[.pointer (some ⟨M, 0, none⟩), .int .i64 i] w fun e w' => e = .returned (.bool (holdsOf s.data.toList lines 7 i)) ∧ Below w.heap.size w w' := by
  have HB := hid (Below.refl w.heap.size w)
  have q0 := hM.cell 0
  have q1 := hM.cell 1
  have hsl : s.data.toList.length = s.size := by rw [Array.length_toList]; rfl
  have HSL := hid hsl
  clear hsl hM
  rcases Nat.eq_zero_or_pos i with rfl | h0
  · have HPL : Hid (holdsOf s.data.toList lines 7 0 = true) := by show _ = _; unfold holdsOf; simp
    go_enter Tryd.func47, Tryd.ntmps47
    go_wp2_with fail
    all_goals go_ret
    all_goals exact ⟨ret_bool (by rw [HPL.out]; try rfl), HB.out⟩
  · obtain ⟨j, rfl⟩ : ∃ j, i = j + 1 := ⟨i - 1, by omega⟩
    have hj : (j : Int) < s.size := by omega
    have hwj : IntKind.i64.wrap (j : Int) = j := by rw [IntKind.wrap_i64]; omega
    have d0 : ((j : Int) + 1 == 0) = false := by simp; omega
    have hbt : byteAt s.data.toList j = s[j] := byteAt_eq (by omega)
    rcases Bool.eq_false_or_eq_true lines with hln | hln
    · subst hln
      by_cases hb : s[j].toNat = 10
      · have HPL : Hid (holdsOf s.data.toList true 7 (j + 1) = true) := by show _ = _; unfold holdsOf; simp [hbt, ← UInt8.toNat_inj, hb]
        have d1 : ((s[j].toNat : Int) == 10) = true := by simp; omega
        go_enter Tryd.func47, Tryd.ntmps47
        go_wp2_with fail
        all_goals go_ret
        all_goals exact ⟨ret_bool (by rw [HPL.out]; try rfl), HB.out⟩
      · have HPL : Hid (holdsOf s.data.toList true 7 (j + 1) = false) := by show _ = _; unfold holdsOf; simp [hbt, ← UInt8.toNat_inj, hb]
        have d1 : ((s[j].toNat : Int) == 10) = false := by simp; omega
        go_enter Tryd.func47, Tryd.ntmps47
        go_wp2_with fail
        all_goals go_ret
        all_goals exact ⟨ret_bool (by rw [HPL.out]; try rfl), HB.out⟩
    · subst hln
      have HPL : Hid (holdsOf s.data.toList false 7 (j + 1) = false) := by show _ = _; unfold holdsOf; simp
      go_enter Tryd.func47, Tryd.ntmps47
      go_wp2_with fail
      all_goals go_ret
      all_goals exact ⟨ret_bool (by rw [HPL.out]; try rfl), HB.out⟩

set_option maxRecDepth 100000 in
set_option maxHeartbeats 8000000 in
theorem pends_any (w : World) (M : Nat) (s : ByteArray) (lines : Bool) (i : Nat) (hM : Row w M [.string s, .bool lines] 67) (hi : i ≤ s.size) (_hs : s.size ≤ 1000000) :
    Calls Tryd.prog 48 #[.pointer (some ⟨M, 0, none⟩), .int .i64 i] w fun e w' => e = .returned (.bool (holdsOf s.data.toList lines 8 i)) ∧ Below w.heap.size w w' := by
  have HB := hid (Below.refl w.heap.size w)
  have q0 := hM.cell 0
  have q1 := hM.cell 1
  have hsl : s.data.toList.length = s.size := by rw [Array.length_toList]; rfl
  have HSL := hid hsl
  clear hsl hM
  rcases Nat.lt_or_ge i s.size with hkl | hkl
  rotate_left
  · have d0 : ((i : Int) == (s.size : Int)) = true := by simp; omega
    have HPL : Hid (holdsOf s.data.toList lines 8 i = true) := by show _ = _; unfold holdsOf; rw [HSL.out]; simp; left; omega
    go_enter Tryd.func48, Tryd.ntmps48
    go_wp2_with fail
    all_goals go_ret
    all_goals exact ⟨ret_bool (by rw [HPL.out]; try rfl), HB.out⟩
  · have hj : (i : Int) < s.size := by omega
    have d0 : ((i : Int) == (s.size : Int)) = false := by simp; omega
    have hbt : byteAt s.data.toList i = s[i] := byteAt_eq (by omega)
    rcases Bool.eq_false_or_eq_true lines with hln | hln
    · subst hln
      by_cases hb : s[i].toNat = 10
      · have HPL : Hid (holdsOf s.data.toList true 8 i = true) := by show _ = _; unfold holdsOf; simp [hbt, ← UInt8.toNat_inj, hb]
        have d1 : ((s[i].toNat : Int) == 10) = true := by simp; omega
        go_enter Tryd.func48, Tryd.ntmps48
        go_wp2_with fail
        all_goals go_ret
        all_goals exact ⟨ret_bool (by rw [HPL.out]; try rfl), HB.out⟩
      · have HPL : Hid (holdsOf s.data.toList true 8 i = false) := by show _ = _; unfold holdsOf; rw [HSL.out]; simp [hbt, ← UInt8.toNat_inj, hb]; omega
        have d1 : ((s[i].toNat : Int) == 10) = false := by simp; omega
        go_enter Tryd.func48, Tryd.ntmps48
        go_wp2_with fail
        all_goals go_ret
        all_goals exact ⟨ret_bool (by rw [HPL.out]; try rfl), HB.out⟩
    · subst hln
      have HPL : Hid (holdsOf s.data.toList false 8 i = false) := by show _ = _; unfold holdsOf; rw [HSL.out]; simp; omega
      go_enter Tryd.func48, Tryd.ntmps48
      go_wp2_with fail
      all_goals go_ret
      all_goals exact ⟨ret_bool (by rw [HPL.out]; try rfl), HB.out⟩
def OutV (OB : Nat) (ov : Value) (l : List Parse) (w : World) : Prop := Row w OB [ov] 39 ∧ OwnP w (OB + 1) ov l
theorem OutV.below {OB : Nat} {ov : Value} {l : List Parse} {w w' : World} (h : OutV OB ov l w) (hb : Below w.heap.size w w') : OutV OB ov l w' := ⟨h.1.below hb h.1.lt, h.2.below hb⟩
def OutPost (OB : Nat) (ov : Value) (w : World) (ov' : Value) (l : List Parse) (w' : World) : Prop := OutV OB ov' l w' ∧ But (OB :: blk ov) w w' ∧ ∀ g, ov'.ownBlock = some g → ov.ownBlock = some g ∨ w.heap.size ≤ g
theorem OutPost.low {OB : Nat} {ov ov' : Value} {l l0 : List Parse} {w w' : World} (h : OutPost OB ov w ov' l w') (h0 : OutV OB ov l0 w) : Below OB w w' :=
  h.2.1.below (Nat.le_of_lt h0.1.lt) fun k hk => by
    rcases List.mem_cons.1 hk with rfl | hk
    · exact Nat.le_refl _
    · have := (h0.2.lt k (mem_blk.1 hk)).1
      omega
theorem OutV.put {OB : Nat} {ov : Value} {l l' : List Parse} {x y w' : World} {a : Option Addr} {n c : Nat} (h : OutV OB ov l x) (ho : OwnP y (OB + 1) (.slice a n c) l') (hg : x.grownBy y ov.ownBlock) (hnew : ∀ g, (Value.slice a n c).ownBlock = some g → ov.ownBlock = some g ∨ x.heap.size ≤ g) (hw : w' = y.setCell ⟨OB, 0, none⟩ (.slice a n c)) : OutPost OB ov x (.slice a n c) l' w' := by
  subst hw
  obtain ⟨_, Lo, o1, o2, o3⟩ := h.2
  have hX : Row y OB [ov] 39 := h.1.grownOwn o3 (by decide) hg
  have hne : ∀ g, (Value.slice a n c).ownBlock = some g → g ≠ OB := fun g hg' e => by
    have := (ho.lt g hg').1
    omega
  refine ⟨⟨hX.set 0 _, ho.keep (fun b cs hr => hr.other (fun e => by subst e; exact absurd (hr.typed hX) (by decide)) _ _) (fun g' hg' => Below.heap_setCell _ _ _ _ (hne g' hg'))⟩, ?_, hnew⟩
  exact (⟨hg.os, hg.tape, hg.output, hg.size, fun k hk hk2 => hg.block k hk (fun e => hk2 (by simp [mem_blk.2 e.symm]))⟩ : But (OB :: blk ov) x y).setCell (p := ⟨OB, 0, none⟩) (.inl (by simp)) _
def AddP (OB : Nat) (ov : Value) (w : World) (l : List Parse) (e : Ending) (w' : World) : Prop := e = .returned (.tuple #[]) ∧ ∃ ov', OutPost OB ov w ov' l w'
set_option maxRecDepth 100000 in
set_option maxHeartbeats 8000000 in
theorem padd_any (w : World) (OB : Nat) (ov : Value) (l : List Parse) (ok : Bool) (q : Parse) (sa : Option Addr) (sc : Nat) (h : OutV OB ov l w) (hl : l.length ≤ 200000) (hsp : SpQ w (.slice sa q.2.length sc) q.2) :
    Calls Tryd.prog 45 #[.bool ok, .agg #[.int .i64 q.1, .slice sa q.2.length sc], .pointer (some ⟨OB, 0, none⟩)] w (AddP OB ov w (if ok = true then l ++ [q] else l)) := by
  obtain ⟨va, vc, rfl⟩ := h.2.form
  obtain ⟨vn, hvn⟩ : ∃ vn, vn = l.length := ⟨_, rfl⟩
  rw [← hvn] at h hl ⊢
  have hb1 : Below w.heap.size w (w.alloc (.cells #[.int .i64 q.1, .slice sa q.2.length sc] 71)) := (Below.refl _ _).alloc (Nat.le_refl _) _
  cases ok with
  | false =>
    simp only [Bool.false_eq_true, if_false]
    have HF : Hid (AddP OB (.slice va vn vc) w l (.returned (.tuple #[])) (w.alloc (.cells #[.int .i64 q.1, .slice sa q.2.length sc] 71))) := ⟨rfl, _, h.below hb1, But.of_below hb1, fun g hg => .inl hg⟩
    clear h hb1 hsp hvn
    go_enter Tryd.func45, Tryd.ntmps45
    go_wp2_with fail
    go_end0
    exact HF.out
  | true =>
    simp only [if_true]
    have HVN := hid hvn
    have h1 := h.below hb1
    have H1 := hid (⟨h1, hsp.below hb1, hb1⟩ : _ ∧ _ ∧ _)
    have q0 := h1.1.cell 0
    have f0 := h1.1.free 0
    have hlt := h.1.lt
    have hne : OB ≠ w.heap.size := by omega
    have hol := h1.2.lt
    clear h hb1 hsp hvn h1
    go_enter Tryd.func45, Tryd.ntmps45
    go_wp2_with (at_builtin; refine wpList_append_ps rfl _ _ rfl (OB + 1) _ l [q] _ _ rfl ?c0 rfl (PsQ.lit (Row.new (by simp)) ?c1) ?c2 ?c3 ?_)
    case c0 => exact H1.out.1.2.below ((Below.refl _ _).alloc (Nat.le_refl _) _)
    case c1 => exact H1.out.2.1.below ((Below.refl _ _).alloc (Nat.le_refl _) _)
    case c2 => rw [← HVN.out]; simp; omega
    case c3 => simp; omega
    intro a2 n2 c2 w3 hn2 hown hg hnew
    have hal : Below ((w.alloc (.cells #[.int .i64 q.1, .slice sa q.2.length sc] 71))).heap.size (w.alloc (.cells #[.int .i64 q.1, .slice sa q.2.length sc] 71)) ((w.alloc (.cells #[.int .i64 q.1, .slice sa q.2.length sc] 71)).alloc (.cells #[.int .i64 q.1, .slice sa q.2.length sc] 71)) := (Below.refl _ _).alloc (Nat.le_refl _) _
    have h2 := H1.out.1.below hal
    have hX3 : Row w3 OB [.slice va vn vc] 39 := by
      obtain ⟨_, Lo, o1, o2, o3⟩ := h2.2
      exact h2.1.grownOwn o3 (by decide) hg
    have q1 := hX3.cell 0
    have f1 := hX3.free 0
    have hp := h2.put hown hg (by simpa using hnew) rfl
    have HF : Hid (AddP OB (.slice va vn vc) w (l ++ [q]) (.returned (.tuple #[])) (w3.setCell ⟨OB, 0, none⟩ (.slice a2 n2 c2))) := by
      have hb2 := H1.out.2.2.trans (hal.mono H1.out.2.2.size)
      refine ⟨rfl, _, hp.1, (But.of_below hb2 : But (OB :: blk (.slice va vn vc)) w _).later hp.2.1 (fun i hi => .inl hi), fun g hg' => ?_⟩
      rcases hp.2.2 g hg' with h | h
      · exact .inl h
      · exact .inr (Nat.le_trans hb2.size h)
    clear hn2 hown hg hnew hal h2 hX3 hp q0 f0
    go_wp2_with fail
    go_end0
    exact HF.out
end Go.Proofs.YthnpbopnpdlmnaaDoor

/- The program of layer 9: the contract of parses. -/
namespace Go.Proofs.YthnpbopnpdlmnaaDoor
open Go.RowKit
attribute [local go_sem] gives givesUpon

def PPar (wb : World) (N : Nat) (s : ByteArray) (lines : Bool) (t : Re) : Prop := ∀ (w : World) (cs : List Value) (M : Nat) (sa : Option Addr) (sc : Nat) (sp : Spans) (i : Nat), t.In wb cs → t.ok N → t.size ≤ 20 → Below wb.heap.size wb w → Row w M [.string s, .bool lines] 67 → SpQ w (.slice sa sp.length sc) sp → SpOk N s.size sp → i ≤ s.size → Tabs9 w →
  Calls Tryd.prog 37 #[.pointer (some ⟨M, 0, none⟩), .agg cs.toArray, .int .i64 i, .slice sa sp.length sc] w (ParP w (parses s.data.toList lines t i sp))
theorem ParP.on {w w1 : World} {r r' : Option (List Parse)} {e : Ending} {w' : World} (h : ParP w1 r e w') (hb : Below w.heap.size w w1) (hr : r = r') : ParP w r' e w' := by
  subst hr
  refine ⟨hb.trans (h.1.mono hb.size), ?_⟩
  cases r with
  | none => exact h.2
  | some l =>
    obtain ⟨a, c, h1, h2⟩ := h.2
    exact ⟨a, c, h1, h2.mono fun b _ hbb => Nat.le_trans hb.size hbb⟩
theorem pend_any (w z : World) (OB : Nat) (ov : Value) (l : List Parse) (N K : Nat) (r : Option (List Parse)) (ho : OutV OB ov l z) (hb : Below w.heap.size w z) (hl : l.length ≤ 200000) (hok : ∀ q, q ∈ l → POk N K 0 q) (hN : N ≤ 9) (hK : K ≤ 1000000) (ht : Tabs9 w) (hr : fin K l = r) :
    Calls Tryd.prog 52 #[ov] z (ParP w r) :=
  (psorted_any z _ ov l K ho.2.psq hl (fun q hq => (hok q hq).fine hN hK) (fun q hq => (hok q hq).2.1) (ht.on hb)).mono fun _ _ h => h.on hb hr
def PAt (w : World) (M : Nat) (s : ByteArray) (lines : Bool) (BXL : List Value) (iv sv : Value) (x : World) : Prop := Row x w.heap.size BXL 28 ∧ Row x (w.heap.size + 1) [iv, sv] 71 ∧ Row x M [.string s, .bool lines] 67 ∧ Below w.heap.size w x
theorem PAt.later {w : World} {M : Nat} {s : ByteArray} {lines : Bool} {BXL : List Value} {iv sv : Value} {x y : World} (h : PAt w M s lines BXL iv sv x) (hb : Below x.heap.size x y) : PAt w M s lines BXL iv sv y :=
  ⟨h.1.below hb h.1.lt, h.2.1.below hb h.2.1.lt, h.2.2.1.below hb h.2.2.1.lt, h.2.2.2.trans (hb.mono h.2.2.2.size)⟩
theorem PAt.low {w : World} {M : Nat} {s : ByteArray} {lines : Bool} {BXL : List Value} {iv sv : Value} {x y : World} {n : Nat} (h : PAt w M s lines BXL iv sv x) (hb : Below n x y) (hn : w.heap.size + 2 ≤ n) (hM : M < w.heap.size) : PAt w M s lines BXL iv sv y :=
  ⟨h.1.below hb (by omega), h.2.1.below hb (by omega), h.2.2.1.below hb (by omega), h.2.2.2.trans (hb.mono (by omega))⟩
set_option maxRecDepth 100000 in
set_option maxHeartbeats 16000000 in
theorem ppar1 (wb : World) (N : Nat) (hN : N ≤ 9) (s : ByteArray) (hs : s.size ≤ 1000000) (lines : Bool) (p : Pay) (xs : List Re) (hop : p.op = 1) : PPar wb N s lines (.mk p xs) := by
  intro w cs M sa sc sp i hIn hok hsz hbw hM hsp hspo hi ht
  rw [Re.In] at hIn
  obtain ⟨ad, cap, rfl, -, -, -, -, -⟩ := hIn
  simp only [Pay.cells]
  have hP : PAt w M s lines [.int .i64 p.op, .int .u64 p.set.a, .int .u64 p.set.b, .int .u64 p.set.c, .int .u64 p.set.d, .int .i64 p.lo, .int .i64 p.hi, .int .i64 p.gr, .slice ad xs.length cap] (.int .i64 i) (.slice sa sp.length sc) (((w.alloc (.cells #[.int .i64 p.op, .int .u64 p.set.a, .int .u64 p.set.b, .int .u64 p.set.c, .int .u64 p.set.d, .int .i64 p.lo, .int .i64 p.hi, .int .i64 p.gr, .slice ad xs.length cap] 28)).alloc (.cells #[.int .i64 i, .slice sa sp.length sc] 71)).alloc (.cells #[.slice none 0 0] 39)) := ⟨((Row.new rfl).alloc _).alloc _, (Row.new (by simp)).alloc _, ((hM.alloc _).alloc _).alloc _, (((Below.refl _ _).alloc (Nat.le_refl _) _).alloc (by simp) _).alloc (by simp; omega) _⟩
  have hO : OutV (w.heap.size + 2) (.slice none 0 0) [] (((w.alloc (.cells #[.int .i64 p.op, .int .u64 p.set.a, .int .u64 p.set.b, .int .u64 p.set.c, .int .u64 p.set.d, .int .i64 p.lo, .int .i64 p.hi, .int .i64 p.gr, .slice ad xs.length cap] 28)).alloc (.cells #[.int .i64 i, .slice sa sp.length sc] 71)).alloc (.cells #[.slice none 0 0] 39)) := ⟨Row.new (by simp), OwnP.nil _ _⟩
  have q0 := hP.1.c9
  have q1 := hP.2.1.two9
  have HA := hid (padd_any (((w.alloc (.cells #[.int .i64 p.op, .int .u64 p.set.a, .int .u64 p.set.b, .int .u64 p.set.c, .int .u64 p.set.d, .int .i64 p.lo, .int .i64 p.hi, .int .i64 p.gr, .slice ad xs.length cap] 28)).alloc (.cells #[.int .i64 i, .slice sa sp.length sc] 71)).alloc (.cells #[.slice none 0 0] 39)) (w.heap.size + 2) (.slice none 0 0) [] true (i, sp) sa sc hO (by simp) (hsp.below hP.2.2.2))
  have HP := hid (⟨hP, hO⟩ : _ ∧ _)
  have HT := hid ht
  have HPA : Hid (parses s.data.toList lines (.mk p xs) i sp = some [(i, sp)]) := by show _ = _; rw [parses]; simp [hop]
  have HQ : Hid (∀ q, q ∈ [((i, sp) : Parse)] → POk N s.size 0 q) := fun q hq => by rw [List.mem_singleton.1 hq]; exact ⟨Nat.zero_le _, hi, hspo⟩
  have HO := hid hop
  have e1 : (p.op == 1) = true := by rw [hop]; decide
  have HFI := hid (fin_one (L := s.size) (q := (i, sp)) hi)
  clear hP hO hok hsz hbw hM hsp hspo ht hop
  go_enter Tryd.func37, Tryd.ntmps37
  go_wp2_with fail
  refine HA.out.mono ?_
  rintro e z ⟨rfl, ov, hz⟩
  have HZ := hid (⟨hz.1, HP.out.1.2.2.2.trans ((hz.low HP.out.2).mono (by omega))⟩ : _ ∧ Below w.heap.size w z)
  have q2 := HZ.out.1.1.cell 0
  have HE := hid (pend_any w z _ ov [(i, sp)] N s.size _ HZ.out.1 HZ.out.2 (by simp) HQ.out hN hs HT.out HFI.out)
  clear hz q0 q1 HA
  go_wp2_with fail
  refine HE.out.mono ?_
  rintro e z2 ⟨hb2, a2, c2, rfl, h2⟩
  have HR := hid (⟨hb2, h2⟩ : _ ∧ _)
  clear hb2 h2
  go_wp2_with fail
  go_ret
  rw [HPA.out]
  exact ⟨HR.out.1, a2, c2, rfl, HR.out.2⟩
end Go.Proofs.YthnpbopnpdlmnaaDoor
