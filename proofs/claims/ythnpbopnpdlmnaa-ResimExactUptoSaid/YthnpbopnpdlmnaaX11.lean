/- Spans and trees as the layers of matching use them, in memory; what several layers share. -/
import Derived.Test.YthnpbopnpdlmnaaX03
import Derived.Test.YthnpbopnpdlmnaaX02
import Derived.RegionTactic
import Derived.BigRegion
import Derived.Deep.QuietTactic
import Derived.BigQuiet
namespace Go.Proofs.Ythnpbopnpdlmnaa
open Go.RowKit
attribute [local go_sem] gives givesUpon

abbrev Spans := List (Int × Int)
mutual
def withinOf : Re → List Nat
  | .mk p xs => (if p.op = 6 then [p.gr.toNat] else []) ++ withinAll xs
def withinAll : List Re → List Nat
  | [] => []
  | x :: xs => withinOf x ++ withinAll xs
end
def unset (sp : Spans) (gs : List Nat) : Spans := gs.foldl (fun l g => l.set (g - 1) (-1, -1)) sp
def byteAt (s : List UInt8) (k : Nat) : UInt8 := s.getD k 0
theorem Row.typed {w : World} {B : Nat} {cs ds : List Value} {T U : TypeId} (h : Row w B cs T) (k : Row w B ds U) : T = U := by
  have e := Option.some.inj (h.symm.trans k)
  injection e
def spc : Spans → List Value
  | [] => []
  | x :: l => .int .i64 x.1 :: .int .i64 x.2 :: spc l
theorem spc_length : ∀ l : Spans, (spc l).length = l.length * 2
  | [] => rfl
  | x :: l => by simp [spc, spc_length l]; omega
theorem spc_get : ∀ (l : Spans) (k : Nat) (x : Int × Int), l[k]? = some x → (spc l)[2 * k]? = some (.int .i64 x.1) ∧ (spc l)[2 * k + 1]? = some (.int .i64 x.2)
  | y :: l, 0, x, h => by simp at h; subst h; exact ⟨rfl, rfl⟩
  | y :: l, k + 1, x, h => by
    have := spc_get l k x (by simpa using h)
    simpa [spc, show 2 * (k + 1) = 2 * k + 2 by omega] using this
theorem spc_append : ∀ l m : Spans, spc (l ++ m) = spc l ++ spc m
  | [], m => rfl
  | x :: l, m => by simp [spc, spc_append l m]
def SpB (p : Nat → Prop) (w : World) (v : Value) (sp : Spans) : Prop :=
  (sp = [] ∧ v = .slice none 0 0) ∨ (sp ≠ [] ∧ ∃ (b c : Nat) (more : List Value), v = .slice (some ⟨b, 0, none⟩) sp.length c ∧ p b ∧ Row w b (spc sp ++ more) 47)
mutual
def Re.ok (N : Nat) : Re → Prop
  | .mk p xs => ((1 ≤ p.op ∧ p.op ≤ 9) ∧ Re.sizes xs ≤ 1000000) ∧ (p.op = 3 ∨ p.op = 4 → xs ≠ []) ∧ (p.op = 5 ∨ p.op = 6 → ∃ x, xs = [x]) ∧ (p.op = 6 ∨ p.op = 9 → 1 ≤ p.gr ∧ p.gr ≤ N) ∧ Re.oks N xs
def Re.oks (N : Nat) : List Re → Prop
  | [] => True
  | t :: ts => t.ok N ∧ Re.oks N ts
end
def SpOk (N L : Nat) (sp : Spans) : Prop := sp.length = N ∧ ∀ x, x ∈ sp → x = (-1, -1) ∨ 0 ≤ x.1 ∧ x.1 ≤ x.2 ∧ x.2 ≤ L
theorem grow_below {w x : World} (hx : Grow w.drew x) : Below w.heap.size w x := ⟨hx.os, hx.tape, hx.output, hx.size, hx.block⟩
theorem Row.grow {w x : World} {B : Nat} {cs : List Value} {T : TypeId} (h : Row w B cs T) (hx : Grow w.drew x) : Row x B cs T := h.below (grow_below hx) h.lt
theorem byteAt_eq {s : ByteArray} {i : Nat} (hi : i < s.size) : byteAt s.data.toList i = s[i] := by
  have h : i < s.data.toList.length := by rw [Array.length_toList]; exact hi
  unfold byteAt
  rw [List.getD_eq_getElem?_getD, List.getElem?_eq_getElem h]
  rfl
theorem below_grow {n : Nat} {w a x : World} (h : Below n w a) (hn : n ≤ a.heap.size) (hx : Grow a.drew x) : Below n w x := h.trans ((⟨hx.os, hx.tape, hx.output, hx.size, hx.block⟩ : Below a.heap.size a x).mono hn)
theorem info_span : (Try.prog.info? 47).map (fun i => (i.zero, i.size, i.bytes)) = some (some (.agg #[.int .i64 0, .int .i64 0]), 2, 16) := by kernel_rfl
theorem spc_one : ∀ (l : Spans) (u : Value), u ∈ spc l → u.oneCell' = true
  | x :: l, u, h => by
    simp only [spc, List.mem_cons] at h
    rcases h with rfl | rfl | h
    · rfl
    · rfl
    · exact spc_one l u h
theorem SpB.own {w : World} {base : Nat} {a : Option Addr} {c n : Nat} {sp : Spans} (h : w.ownsRow base 47 2 (.slice a n c) n (spc sp)) (hn : n = sp.length) (h0 : sp ≠ []) : SpB (base ≤ ·) w (.slice a n c) sp := by
  subst hn
  rcases h.2 with ⟨e1, e2⟩ | ⟨g, cap, cur, hv, hg, hcur, hnc, hcm, hsz, hxs⟩
  · exact absurd (List.eq_nil_of_length_eq_zero (by simpa using e2)) h0
  · refine .inr ⟨h0, g, cap, cur.toList.drop (sp.length * 2), hv, hg, ?_⟩
    have e : spc sp ++ cur.toList.drop (sp.length * 2) = cur.toList := by
      rw [← hxs]
      exact List.take_append_drop _ _
    unfold Row
    rw [e]
    exact hcur
def unsetAll (N : Nat) : Spans := List.replicate N (-1, -1)
def OwnSp (w : World) (base : Nat) (v : Value) (l : Spans) : Prop := (l = [] → v = .slice none 0 0) ∧ w.ownsRow base 47 2 v l.length (spc l)
theorem OwnSp.below {w w' : World} {base : Nat} {v : Value} {l : Spans} (h : OwnSp w base v l) (hb : Below w.heap.size w w') : OwnSp w' base v l :=
  ⟨h.1, h.2.kept (row := none) ⟨hb.os, hb.tape, hb.output, hb.size, fun k hk _ => hb.block k hk⟩ (by cases v.ownBlock <;> simp)⟩
theorem OwnSp.spb {w : World} {base : Nat} {a : Option Addr} {n c : Nat} {l : Spans} (h : OwnSp w base (.slice a n c) l) : SpB (base ≤ ·) w (.slice a n c) l := by
  by_cases h0 : l = []
  · exact .inl ⟨h0, h.1 h0⟩
  · obtain ⟨a', c', e⟩ := ownsRow_shape h.2
    injection e with e1 e2 e3
    subst e2
    exact SpB.own h.2 rfl h0
theorem OwnSp.app {w' : World} {base : Nat} {a' : Option Addr} {n' c' : Nat} {l m : Spans} (hm : m ≠ []) (h : w'.ownsRow base 47 2 (.slice a' n' c') n' (spc l ++ spc m)) (hn : n' = l.length + m.length) : OwnSp w' base (.slice a' n' c') (l ++ m) := by
  refine ⟨fun e => absurd (List.append_eq_nil_iff.1 e).2 hm, ?_⟩
  rw [List.length_append, ← hn, spc_append]
  exact h
theorem Row.grownOwn {w w' : World} {B : Nat} {cs : List Value} {T e : TypeId} {base size n : Nat} {v : Value} {xs : List Value} (r : Row w B cs T) (h : w.ownsRow base e size v n xs) (hne : T ≠ e) (hg : w.grownBy w' v.ownBlock) : Row w' B cs T := by
  refine (hg.block B r.lt fun e1 => ?_).trans r
  obtain ⟨-, h2⟩ := h
  rcases h2 with ⟨hv, -⟩ | ⟨g', cap, cur, hv, -, hh, -⟩
  · rw [hv] at e1; cases e1
  · rw [hv] at e1
    have e2 : B = g' := by simpa [Value.ownBlock] using e1
    subst e2
    unfold Row at r
    rw [hh] at r
    simp only [Option.some.injEq, Obj.cells.injEq] at r
    exact hne r.2.1.symm
end Go.Proofs.Ythnpbopnpdlmnaa

/- The parses of a tree, plainly. -/
namespace Go.Proofs.Ythnpbopnpdlmnaa

abbrev Parse := Nat × Spans
def addP (l : List Parse) (p : Parse) : List Parse := if p ∈ l then l else l ++ [p]
def nub (l : List Parse) : List Parse := l.foldl addP []
def sortP (L : Nat) (l : List Parse) : List Parse := (List.range (L + 1)).reverse.flatMap fun e => l.filter fun q => q.1 == e
def most : Nat := 4096
def fin (L : Nat) (l : List Parse) : Option (List Parse) := if most < (nub l).length then none else some (sortP L (nub l))
abbrev Sit := Nat × Nat × Spans
section
variable (p : Pay) (gs : List Nat) (child : Nat → Spans → Option (List Parse))
def visit : Nat → Sit → List Sit × List Parse → Option (List Sit × List Parse)
  | 0, _, _ => none
  | f + 1, x, st =>
    let c := if p.hi < 0 ∧ p.lo < x.1 then p.lo.toNat else x.1
    if (c, x.2.1, x.2.2) ∈ st.1 then some st
    else if most < st.1.length + 1 then none
    else
      let st1 := (st.1 ++ [(c, x.2.1, x.2.2)], st.2)
      (if p.hi < 0 ∨ (c : Int) < p.hi then
        (child x.2.1 (unset x.2.2 gs)).bind fun l => l.foldlM (fun st q => if q.1 = x.2.1 ∧ p.lo ≤ c then some st else visit f (c + 1, q.1, q.2) st) st1
      else some st1).bind fun st => some (st.1, if p.lo ≤ (c : Int) then st.2 ++ [(x.2.1, x.2.2)] else st.2)
end
section
variable (s : List UInt8) (lines : Bool)
mutual
def parses : Re → Nat → Spans → Option (List Parse)
  | .mk p xs, i, sp =>
    if p.op = 1 then some [(i, sp)]
    else if p.op = 2 then some (if decide (i < s.length) && p.set.has (byteAt s i).toNat then [(i + 1, sp)] else [])
    else if p.op = 3 then (catP xs [(i, sp)]).bind (fin s.length)
    else if p.op = 4 then (altP xs i sp).bind (fin s.length)
    else if p.op = 5 then (visit p (withinAll xs) (firstP xs) (most + 1) (0, i, sp) ([], [])).bind fun st => fin s.length st.2
    else if p.op = 6 then (firstP xs i sp).bind fun l => fin s.length (l.map fun q => (q.1, q.2.set (p.gr.toNat - 1) ((i : Int), (q.1 : Int))))
    else if p.op = 7 then some (if decide (i = 0) || lines && decide (byteAt s (i - 1) = 10) then [(i, sp)] else [])
    else if p.op = 8 then some (if decide (i = s.length) || lines && decide (byteAt s i = 10) then [(i, sp)] else [])
    else
      let g := sp.getD (p.gr.toNat - 1) (-1, -1)
      let m := (g.2 - g.1).toNat
      some (if decide (0 ≤ g.1) && decide (i + m ≤ s.length) && decide ((s.drop i).take m = (s.drop g.1.toNat).take m) then [(i + m, sp)] else [])
def firstP : List Re → Nat → Spans → Option (List Parse)
  | [], _, _ => none
  | x :: _, i, sp => parses x i sp
def altP : List Re → Nat → Spans → Option (List Parse)
  | [], _, _ => some []
  | x :: xs, i, sp => (parses x i sp).bind fun l => (altP xs i sp).bind fun m => some (l ++ m)
def catP : List Re → List Parse → Option (List Parse)
  | [], l => some l
  | x :: xs, l => (l.mapM fun q => parses x q.1 q.2).bind fun ms => if most < (nub ms.flatten).length then none else catP xs (nub ms.flatten)
end
end
theorem flatMap_same {α β : Type} {f g : α → List β} : ∀ {l : List α}, (∀ a, a ∈ l → f a = g a) → l.flatMap f = l.flatMap g
  | [], _ => rfl
  | a :: l, h => by rw [List.flatMap_cons, List.flatMap_cons, h a (by simp), flatMap_same fun b hb => h b (by simp [hb])]
theorem filter_split {α : Type} (f : α → Bool) : ∀ l : List α, l.length = (l.filter f).length + (l.filter fun x => !f x).length
  | [] => rfl
  | a :: l => by
    have := filter_split f l
    cases h : f a <;> simp [h] <;> omega
theorem addP_mem {l : List Parse} {p q : Parse} : q ∈ addP l p ↔ q ∈ l ∨ q = p := by
  unfold addP
  split
  · rename_i h
    constructor
    · exact .inl
    · rintro (h' | rfl)
      · exact h'
      · exact h
  · simp
theorem addP_nodup {l : List Parse} {p : Parse} (h : l.Nodup) : (addP l p).Nodup := by
  unfold addP
  split
  · exact h
  · rename_i hp
    exact List.nodup_append.2 ⟨h, by simp, by intro a ha b hb; simp at hb; subst hb; rintro rfl; exact hp ha⟩
theorem foldl_addP_mem (m : List Parse) : ∀ (l : List Parse) (q : Parse), q ∈ m.foldl addP l ↔ q ∈ l ∨ q ∈ m := by
  induction m with
  | nil => intro l q; simp
  | cons p m ih => intro l q; rw [List.foldl_cons, ih, addP_mem, List.mem_cons]; grind
theorem nub_mem {l : List Parse} {q : Parse} : q ∈ nub l ↔ q ∈ l := by unfold nub; rw [foldl_addP_mem]; simp
theorem foldl_addP_nodup (m : List Parse) : ∀ l : List Parse, l.Nodup → (m.foldl addP l).Nodup := by
  induction m with
  | nil => intro l h; exact h
  | cons p m ih => intro l h; exact ih _ (addP_nodup h)
theorem nub_nodup (l : List Parse) : (nub l).Nodup := foldl_addP_nodup l [] (by simp)
theorem nub_snoc (l : List Parse) (p : Parse) : nub (l ++ [p]) = addP (nub l) p := by unfold nub; rw [List.foldl_append]; rfl
theorem nub_append (l m : List Parse) : nub (l ++ m) = m.foldl addP (nub l) := by unfold nub; rw [List.foldl_append]
theorem filter_addP (f : Parse → Bool) (l : List Parse) (p : Parse) : (addP l p).filter f = if f p then addP (l.filter f) p else l.filter f := by
  unfold addP
  by_cases h : p ∈ l
  · rw [if_pos h]
    by_cases hf : f p
    · rw [if_pos hf, if_pos (List.mem_filter.2 ⟨h, hf⟩)]
    · rw [if_neg hf]
  · rw [if_neg h, List.filter_append]
    by_cases hf : f p
    · rw [if_pos hf, if_neg (fun hm => h (List.mem_filter.1 hm).1)]; simp [hf]
    · rw [if_neg hf]; simp [hf]
theorem nub_filter (f : Parse → Bool) (l : List Parse) : nub (l.filter f) = (nub l).filter f := by
  suffices h : ∀ (m a : List Parse), ((m.filter f).foldl addP (a.filter f)) = (m.foldl addP a).filter f by exact h l []
  intro m
  induction m with
  | nil => intro a; rfl
  | cons p m ih =>
    intro a
    rw [List.foldl_cons, ← ih, filter_addP]
    by_cases hf : f p
    · rw [List.filter_cons_of_pos hf, if_pos hf]; rfl
    · rw [List.filter_cons_of_neg hf, if_neg hf]
theorem nub_of_nodup (l : List Parse) (h : l.Nodup) : nub l = l := by
  suffices k : ∀ (m a : List Parse), (a ++ m).Nodup → m.foldl addP a = a ++ m by have h0 := k l [] (by simpa using h); simpa [nub] using h0
  intro m
  induction m with
  | nil => intro a _; simp
  | cons p m ih =>
    intro a h
    have hp : p ∉ a := by
      intro hm
      rw [List.nodup_append] at h
      exact h.2.2 p hm p (by simp) rfl
    rw [List.foldl_cons, show addP a p = a ++ [p] by unfold addP; rw [if_neg hp], ih (a ++ [p]) (by simpa using h)]
    simp
theorem nub_nub (l : List Parse) : nub (nub l) = nub l := nub_of_nodup _ (nub_nodup l)
theorem nub_disjoint {a b : List Parse} (h : ∀ x, x ∈ a → x ∉ b) : nub (a ++ b) = nub a ++ nub b := by
  rw [nub_append]
  suffices k : ∀ (m c : List Parse), (∀ x, x ∈ m → x ∉ nub a) → m.foldl addP (nub a ++ c) = nub a ++ m.foldl addP c by
    have := k b [] (fun x hx hm => h x (nub_mem.1 hm) hx)
    simpa [nub] using this
  intro m
  induction m with
  | nil => intro c _; rfl
  | cons p m ih =>
    intro c hm
    rw [List.foldl_cons, List.foldl_cons]
    have hp := hm p (by simp)
    have : addP (nub a ++ c) p = nub a ++ addP c p := by
      unfold addP
      by_cases hc : p ∈ c
      · rw [if_pos hc, if_pos (List.mem_append.2 (.inr hc))]
      · rw [if_neg hc, if_neg (by rw [List.mem_append]; rintro (h | h); exact hp h; exact hc h)]; simp
    rw [this, ih _ (fun x hx => hm x (by simp [hx]))]
theorem nub_classes (l : List Parse) : ∀ es : List Nat, es.Nodup → nub (es.flatMap fun e => l.filter fun q => q.1 == e) = es.flatMap fun e => (nub l).filter fun q => q.1 == e
  | [], _ => rfl
  | e :: es, h => by
    rw [List.nodup_cons] at h
    rw [List.flatMap_cons, List.flatMap_cons, nub_disjoint, nub_filter, nub_classes l es h.2]
    intro x hx hm
    have h1 := (List.mem_filter.1 hx).2
    obtain ⟨e', he', hm⟩ := List.mem_flatMap.1 hm
    have h2 := (List.mem_filter.1 hm).2
    simp at h1 h2
    rw [h1] at h2
    subst h2
    exact h.1 he'
theorem nub_sortP (L : Nat) (l : List Parse) : nub (sortP L l) = sortP L (nub l) := nub_classes l _ (List.pairwise_reverse.2 (List.nodup_range.imp fun h e => h e.symm))
theorem sortP_mem {L : Nat} {l : List Parse} {q : Parse} : q ∈ sortP L l ↔ q ∈ l ∧ q.1 ≤ L := by
  unfold sortP
  rw [List.mem_flatMap]
  constructor
  · rintro ⟨e, he, hq⟩
    have h1 := List.mem_filter.1 hq
    simp at he h1
    exact ⟨h1.1, by omega⟩
  · rintro ⟨h1, h2⟩
    exact ⟨q.1, by simp; omega, List.mem_filter.2 ⟨h1, by simp⟩⟩
theorem sortP_desc (L : Nat) (l : List Parse) : (sortP L l).Pairwise fun x y => y.1 ≤ x.1 := by
  unfold sortP
  suffices h : ∀ es : List Nat, es.Pairwise (fun a b => b < a) → (es.flatMap fun e => l.filter fun q => q.1 == e).Pairwise fun x y => y.1 ≤ x.1 by
    exact h _ (List.pairwise_reverse.2 List.pairwise_lt_range)
  intro es
  induction es with
  | nil => intro _; simp
  | cons e es ih =>
    intro h
    rw [List.pairwise_cons] at h
    rw [List.flatMap_cons]
    refine List.pairwise_append.2 ⟨?_, ih h.2, ?_⟩
    · exact List.Pairwise.filter _ (List.pairwise_of_forall (fun x y => by trivial) : List.Pairwise (fun _ _ => True) l) |>.imp_of_mem (fun {x y} hx hy _ => by
        have h1 := (List.mem_filter.1 hx).2; have h2 := (List.mem_filter.1 hy).2; simp at h1 h2; omega)
    · intro x hx y hy
      have h1 := (List.mem_filter.1 hx).2
      obtain ⟨e', he', hm⟩ := List.mem_flatMap.1 hy
      have h2 := (List.mem_filter.1 hm).2
      have := h.1 e' he'
      simp at h1 h2
      omega
theorem desc_classes (m : List Parse) (h : m.Pairwise fun x y => y.1 ≤ x.1) : ∀ L : Nat, (∀ q, q ∈ m → q.1 ≤ L) → m = sortP L m := by
  induction m with
  | nil => intro L _; unfold sortP; simp
  | cons p m ih =>
    intro L hL
    rw [List.pairwise_cons] at h
    have hp := hL p (by simp)
    have ih' := ih h.2 p.1 (fun q hq => h.1 q hq)
    have key : ∀ M : Nat, p.1 ≤ M → sortP M (p :: m) = p :: sortP p.1 m := by
      intro M
      induction M with
      | zero =>
        intro h0
        have : p.1 = 0 := by omega
        unfold sortP
        rw [this]
        simp [this]
      | succ M ihM =>
        intro hM
        by_cases he : p.1 = M + 1
        · unfold sortP
          rw [he, List.range_succ, List.reverse_append]
          simp only [List.reverse_cons, List.reverse_nil, List.nil_append, List.singleton_append, List.flatMap_cons]
          rw [List.filter_cons_of_pos (by simp [he]), List.cons_append]
          congr 2
          refine flatMap_same ?_
          intro e hee
          rw [List.filter_cons_of_neg]
          simp at hee
          simp; omega
        · have := ihM (by omega)
          rw [← this]
          unfold sortP
          rw [List.range_succ (n := M + 1), List.reverse_append]
          simp only [List.reverse_cons, List.reverse_nil, List.nil_append, List.singleton_append, List.flatMap_cons]
          have : (List.filter (fun q => q.1 == M + 1) (p :: m)) = [] := by
            rw [List.filter_eq_nil_iff]
            intro q hq
            rcases List.mem_cons.1 hq with rfl | hq
            · simpa using he
            · have := h.1 q hq; simp; omega
          rw [this, List.nil_append]
    rw [key L hp, ← ih']
theorem sortP_length {L : Nat} {l : List Parse} (hl : ∀ q, q ∈ l → q.1 ≤ L) : (sortP L l).length = l.length := by
  unfold sortP
  induction L generalizing l with
  | zero =>
    have : ∀ q ∈ l, (q.1 == 0) = true := fun q hq => by have := hl q hq; simp; omega
    simp [List.filter_eq_self.2 this]
  | succ L ih =>
    rw [List.range_succ (n := L + 1), List.reverse_append]
    simp only [List.reverse_cons, List.reverse_nil, List.nil_append, List.singleton_append, List.flatMap_cons]
    have h2 := ih (l := l.filter fun q => !(q.1 == L + 1)) (fun q hq => by have := hl q (List.mem_filter.1 hq).1; have := (List.mem_filter.1 hq).2; simp at this; omega)
    have h3 : (List.flatMap (fun e => List.filter (fun q => q.1 == e) l) (List.range (L + 1)).reverse) = (List.flatMap (fun e => List.filter (fun q => q.1 == e) (l.filter fun q => !(q.1 == L + 1))) (List.range (L + 1)).reverse) := by
      refine flatMap_same fun e he => ?_
      rw [List.filter_filter]
      refine List.filter_congr fun q _ => ?_
      simp at he
      by_cases h : q.1 = e
      · simp [h]; omega
      · simp [h]
    rw [List.length_append, h3, h2]
    have := filter_split (fun q => q.1 == L + 1) l
    omega
theorem foldlM_inv {α σ : Type} {P : σ → Prop} {f : σ → α → Option σ} : ∀ (l : List α) (s s' : σ), l.foldlM f s = some s' → P s → (∀ s a s', a ∈ l → P s → f s a = some s' → P s') → P s'
  | [], s, s', h, hs, _ => by simp at h; subst h; exact hs
  | a :: l, s, s', h, hs, hf => by
    rw [List.foldlM_cons] at h
    cases h1 : f s a with
    | none => simp [h1] at h
    | some s1 =>
      simp [h1] at h
      exact foldlM_inv l s1 s' h (hf s a s1 (by simp) hs h1) fun s b s' hb => hf s b s' (by simp [hb])
theorem mapM_inv {α β : Type} {P : β → Prop} {f : α → Option β} : ∀ (l : List α) (m : List β), l.mapM f = some m → (∀ a b, a ∈ l → f a = some b → P b) → ∀ b, b ∈ m → P b
  | [], m, h, _ => by simp at h; subst h; intro b hb; cases hb
  | a :: l, m, h, hf => by
    rw [List.mapM_cons] at h
    cases h1 : f a with
    | none => simp [h1] at h
    | some b0 =>
      cases h2 : l.mapM f with
      | none => simp [h1, h2] at h
      | some m0 =>
        simp [h1, h2] at h
        subst h
        intro b hb
        rcases List.mem_cons.1 hb with rfl | hb
        · exact hf a b (by simp) h1
        · exact mapM_inv l m0 h2 (fun a b ha => hf a b (by simp [ha])) b hb
section
variable {p : Pay} {gs : List Nat} {child : Nat → Spans → Option (List Parse)}
theorem visit_inv {G : Parse → Prop} (hG : ∀ j sp l, G (j, sp) → child j (unset sp gs) = some l → ∀ q, q ∈ l → G q) :
    ∀ (f : Nat) (x : Sit) (st st' : List Sit × List Parse), visit p gs child f x st = some st' → G (x.2.1, x.2.2) → (∀ q, q ∈ st.2 → G q) → ∀ q, q ∈ st'.2 → G q
  | 0, x, st, st', h, _, _ => by cases h
  | f + 1, (c0, i, sp), st, st', h, hx, hst => by
    rw [visit] at h
    dsimp only at h hx
    generalize (if p.hi < 0 ∧ p.lo < (c0 : Int) then p.lo.toNat else c0) = c at h
    split at h
    · have := Option.some.inj h; subst this; exact hst
    split at h
    · cases h
    rw [Option.bind_eq_some_iff] at h
    obtain ⟨st2, h1, h2⟩ := h
    have := Option.some.inj h2
    subst this
    have h3 : ∀ q, q ∈ st2.2 → G q := by
      split at h1
      · rw [Option.bind_eq_some_iff] at h1
        obtain ⟨l, h4, h5⟩ := h1
        refine foldlM_inv (P := fun st : List Sit × List Parse => ∀ q, q ∈ st.2 → G q) l _ st2 h5 hst fun s a s' ha hs hf => ?_
        split at hf
        · have := Option.some.inj hf; subst this; exact hs
        · exact visit_inv hG f _ s s' hf (hG i sp l hx h4 a ha) hs
      · have := Option.some.inj h1; subst this; exact hst
    intro q hq
    dsimp only at hq
    split at hq
    · rcases List.mem_append.1 hq with hq | hq
      · exact h3 q hq
      · have := List.mem_singleton.1 hq; subst this; exact hx
    · exact h3 q hq
end
theorem fin_mem {L : Nat} {l m : List Parse} (h : fin L l = some m) : ∀ q, q ∈ m → q ∈ l := by
  unfold fin at h
  split at h
  · cases h
  · have := Option.some.inj h; subst this
    intro q hq
    exact nub_mem.1 (sortP_mem.1 hq).1
theorem SpOk.put {N L : Nat} {sp : Spans} (h : SpOk N L sp) (g : Nat) (i k : Nat) (hik : i ≤ k) (hk : k ≤ L) : SpOk N L (sp.set g ((i : Int), (k : Int))) := by
  refine ⟨by rw [List.length_set]; exact h.1, fun x hx => ?_⟩
  rcases List.mem_or_eq_of_mem_set hx with hx | rfl
  · exact h.2 x hx
  · exact .inr ⟨by simp, by simpa using hik, by simpa using hk⟩
theorem SpOk.unset {N L : Nat} (gs : List Nat) : ∀ {sp : Spans}, SpOk N L sp → SpOk N L (unset sp gs) := by
  induction gs with
  | nil => intro sp h; exact h
  | cons g gs ih =>
    intro sp h
    refine ih (sp := sp.set (g - 1) (-1, -1)) ⟨by rw [List.length_set]; exact h.1, fun x hx => ?_⟩
    rcases List.mem_or_eq_of_mem_set hx with hx | rfl
    · exact h.2 x hx
    · exact .inl rfl
def POk (N L i0 : Nat) (q : Parse) : Prop := i0 ≤ q.1 ∧ q.1 ≤ L ∧ SpOk N L q.2
section
variable (s : List UInt8) (lines : Bool) (N : Nat)
mutual
theorem parses_ok : ∀ (t : Re) (i : Nat) (sp : Spans) (l : List Parse), t.ok N → i ≤ s.length → SpOk N s.length sp → parses s lines t i sp = some l → ∀ q, q ∈ l → POk N s.length i q
  | .mk p xs, i, sp, l, hok, hi, hsp, h => by
    rw [Re.ok] at hok
    obtain ⟨⟨hop, -⟩, h34, h56, h69, hoks⟩ := hok
    have h0 : POk N s.length i (i, sp) := ⟨Nat.le_refl _, hi, hsp⟩
    rw [parses] at h
    split at h
    · have := Option.some.inj h; subst this; intro q hq; have := List.mem_singleton.1 hq; subst this; exact h0
    split at h
    · have := Option.some.inj h; subst this
      intro q hq
      split at hq
      · rename_i hc
        rw [Bool.and_eq_true, decide_eq_true_eq] at hc
        have := List.mem_singleton.1 hq; subst this
        exact ⟨by dsimp only; omega, by dsimp only; omega, hsp⟩
      · cases hq
    split at h
    · rw [Option.bind_eq_some_iff] at h
      obtain ⟨m, h1, h2⟩ := h
      intro q hq
      exact catP_ok xs [(i, sp)] m i hoks (fun q hq => by have := List.mem_singleton.1 hq; subst this; exact h0) h1 q (fin_mem h2 q hq)
    split at h
    · rw [Option.bind_eq_some_iff] at h
      obtain ⟨m, h1, h2⟩ := h
      intro q hq
      exact altP_ok xs i sp m hoks hi hsp h1 q (fin_mem h2 q hq)
    split at h
    · rw [Option.bind_eq_some_iff] at h
      obtain ⟨st, h1, h2⟩ := h
      intro q hq
      have hq := fin_mem h2 q hq
      refine visit_inv (G := POk N s.length i) (fun j sp' l' hj hl q' hq' => ?_) _ _ _ st h1 h0 (fun q hq => by cases hq) q hq
      have := firstP_ok xs j (unset sp' (withinAll xs)) l' hoks hj.2.1 (hj.2.2.unset _) hl q' hq'
      exact ⟨Nat.le_trans hj.1 this.1, this.2⟩
    split at h
    · rw [Option.bind_eq_some_iff] at h
      obtain ⟨m, h1, h2⟩ := h
      intro q hq
      obtain ⟨q0, hq0, rfl⟩ := List.mem_map.1 (fin_mem h2 q hq)
      have := firstP_ok xs i sp m hoks hi hsp h1 q0 hq0
      exact ⟨this.1, this.2.1, this.2.2.put _ _ _ this.1 this.2.1⟩
    split at h
    · have := Option.some.inj h; subst this
      intro q hq
      split at hq
      · have := List.mem_singleton.1 hq; subst this; exact h0
      · cases hq
    split at h
    · have := Option.some.inj h; subst this
      intro q hq
      split at hq
      · have := List.mem_singleton.1 hq; subst this; exact h0
      · cases hq
    · have := Option.some.inj h; subst this
      intro q hq
      split at hq
      · rename_i hc
        rw [Bool.and_eq_true, Bool.and_eq_true, decide_eq_true_eq, decide_eq_true_eq] at hc
        have := List.mem_singleton.1 hq; subst this
        exact ⟨by dsimp only; omega, hc.1.2, hsp⟩
      · cases hq
theorem firstP_ok : ∀ (xs : List Re) (i : Nat) (sp : Spans) (l : List Parse), Re.oks N xs → i ≤ s.length → SpOk N s.length sp → firstP s lines xs i sp = some l → ∀ q, q ∈ l → POk N s.length i q
  | [], i, sp, l, _, _, _, h => by rw [firstP] at h; cases h
  | x :: xs, i, sp, l, hok, hi, hsp, h => by rw [firstP] at h; rw [Re.oks] at hok; exact parses_ok x i sp l hok.1 hi hsp h
theorem altP_ok : ∀ (xs : List Re) (i : Nat) (sp : Spans) (l : List Parse), Re.oks N xs → i ≤ s.length → SpOk N s.length sp → altP s lines xs i sp = some l → ∀ q, q ∈ l → POk N s.length i q
  | [], i, sp, l, _, _, _, h => by rw [altP] at h; have := Option.some.inj h; subst this; intro q hq; cases hq
  | x :: xs, i, sp, l, hok, hi, hsp, h => by
    rw [altP] at h
    rw [Re.oks] at hok
    simp only [Option.bind_eq_some_iff] at h
    obtain ⟨a, h1, b, h2, h3⟩ := h
    have := Option.some.inj h3; subst this
    intro q hq
    rcases List.mem_append.1 hq with hq | hq
    · exact parses_ok x i sp a hok.1 hi hsp h1 q hq
    · exact altP_ok xs i sp b hok.2 hi hsp h2 q hq
theorem catP_ok : ∀ (xs : List Re) (l m : List Parse) (i0 : Nat), Re.oks N xs → (∀ q, q ∈ l → POk N s.length i0 q) → catP s lines xs l = some m → ∀ q, q ∈ m → POk N s.length i0 q
  | [], l, m, i0, _, hl, h => by rw [catP] at h; have := Option.some.inj h; subst this; exact hl
  | x :: xs, l, m, i0, hok, hl, h => by
    rw [catP] at h
    rw [Re.oks] at hok
    rw [Option.bind_eq_some_iff] at h
    obtain ⟨ms, h1, h2⟩ := h
    split at h2
    · cases h2
    refine catP_ok xs (nub ms.flatten) m i0 hok.2 (fun q hq => ?_) h2
    obtain ⟨b, hb, hqb⟩ := List.mem_flatten.1 (nub_mem.1 hq)
    refine mapM_inv (P := fun b : List Parse => ∀ q, q ∈ b → POk N s.length i0 q) l ms h1 (fun a b ha hf q hq => ?_) b hb q hqb
    have h3 := hl a ha
    have := parses_ok x a.1 a.2 b hok.1 h3.2.1 h3.2.2 hf q hq
    exact ⟨Nat.le_trans h3.1 this.1, this.2⟩
end
end
end Go.Proofs.Ythnpbopnpdlmnaa
