/- The program of layer 9: a repetition. -/
import Derived.Test.YthnpbopnpdlmnaaDoorA37
import Derived.Great.BuildSlice
import Derived.Test.YthnpbopnpdlmnaaDoorA32
import Derived.Test.YthnpbopnpdlmnaaDoorA35
import Derived.Test.YthnpbopnpdlmnaaDoorA19
namespace Go.Proofs.YthnpbopnpdlmnaaDoor
open Go.RowKit
attribute [local go_sem] gives givesUpon

theorem wpList_store_new {P : Program} {ops : Array Oper} {rest : List Oper} {o : Oper} {a : Act} {v : World} {Q : Exit → Act → World → Prop} {T : TypeId} {old : Value} (hgd : o.guard = none) (ty : TypeId) (x y : Operand) (ho : o.op = .store ty x y)
    (g : Nat) (hg : g = v.heap.size) (new : Value) (hx : a.eval x = .pointer (some ⟨g, 0, none⟩)) (hy : a.eval y = new) (h1 : new.oneCell' = true) (hi : (P.info? ty).map (·.size) = some 1)
    (h : wpList P ops Q rest (a.put o.dst undef) (v.alloc (.cells #[new] T))) : wpList P ops Q (o :: rest) a (v.alloc (.cells #[old] T)) := by
  subst hg
  subst hy
  have h9 : (v.alloc (.cells #[old] T)).heap[v.heap.size]? = some (.cells #[old] T (0, 0)) := by show (v.heap.push _)[v.heap.size]? = _; simp
  refine wpList_store_one hgd ty x y ho v.heap.size hx h1 T old h9 hi ?_
  have : (v.alloc (.cells #[old] T)).setRow v.heap.size #[a.eval y] = v.alloc (.cells #[a.eval y] T) := by
    unfold World.setRow World.alloc
    congr 1
    apply Array.ext_getElem?
    intro i
    by_cases hi : i = v.heap.size
    · subst hi; rw [Array.getElem?_modify]; simp
    · simp [Array.getElem?_push, Array.getElem?_modify, hi, Ne.symm hi]
  rw [this]; exact h
def RepP (N : Nat) (s : ByteArray) (w : World) (r : Option (List Sit × List Parse)) (e : Ending) (w' : World) : Prop :=
  Below w.heap.size w w' ∧ match r with
    | some st => ∃ a c, e = .returned (.slice a st.2.length c) ∧ PsQ (w.heap.size ≤ ·) w' (.slice a st.2.length c) st.2 ∧ StOk N s.size st
    | none => e = .panicked exh
set_option maxRecDepth 100000 in
set_option maxHeartbeats 16000000 in
theorem prepeated_any (wb : World) (N : Nat) (hN : N ≤ 9) (s : ByteArray) (hs : s.size ≤ 1000000) (lines : Bool) (p : Pay) (x0 : Re) (bb o cap : Nat) (hop : p.op = 5) (HX0 : PPar wb N s lines x0) (hIn : (Re.mk p [x0]).In wb [.int .i64 p.op, .int .u64 p.set.a, .int .u64 p.set.b, .int .u64 p.set.c, .int .u64 p.set.d, .int .i64 p.lo, .int .i64 p.hi, .int .i64 p.gr, .slice (some ⟨bb, o, none⟩) 1 cap]) (hok : (Re.mk p [x0]).ok N) (hsz : (Re.mk p [x0]).size ≤ 20) (hlo : 0 ≤ p.lo ∧ p.lo ≤ 1000) (hhi : -1 ≤ p.hi ∧ p.hi ≤ 1000) (ht : Tabs9 wb)
    (w : World) (M : Nat) (sa : Option Addr) (sc : Nat) (sp : Spans) (i : Nat) (hbw : Below wb.heap.size wb w) (hM : Row w M [.string s, .bool lines] 67) (hsp : SpQ w (.slice sa sp.length sc) sp) (hspo : SpOk N s.size sp) (hi : i ≤ s.size) :
    Calls Tryd.prog 51 #[.pointer (some ⟨M, 0, none⟩), .agg #[.int .i64 p.op, .int .u64 p.set.a, .int .u64 p.set.b, .int .u64 p.set.c, .int .u64 p.set.d, .int .i64 p.lo, .int .i64 p.hi, .int .i64 p.gr, .slice (some ⟨bb, o, none⟩) 1 cap], .int .i64 i, .slice sa sp.length sc] w (RepP N s w (visit p (withinAll [x0]) (firstP s.data.toList lines [x0]) 4097 (0, i, sp) ([], []))) := by
  have hmm := @run_makeMap Tryd.prog
  have hw6 : ((((((w.alloc (.cells #[.pointer (some ⟨M, 0, none⟩)] 65)).alloc (.cells #[.int .i64 p.op, .int .u64 p.set.a, .int .u64 p.set.b, .int .u64 p.set.c, .int .u64 p.set.d, .int .i64 p.lo, .int .i64 p.hi, .int .i64 p.gr, .slice (some ⟨bb, o, none⟩) 1 cap] 28)).alloc (.cells #[.slice none 0 0] 39)).alloc (.map #[] 0)).alloc (.cells #[.map (some (w.heap.size + 1 + 1 + 1))] 103)).alloc (.cells #[(.func (.func 56) #[] #[.pointer (some ⟨w.heap.size + 1, 0, none⟩), .pointer (some ⟨w.heap.size + 1 + 1 + 1 + 1, 0, none⟩), .pointer (some ⟨w.heap.size, 0, none⟩), .pointer (some ⟨w.heap.size + 1 + 1 + 1 + 1 + 1, 0, none⟩), .pointer (some ⟨w.heap.size + 1 + 1, 0, none⟩)])] 104)).heap.size = w.heap.size + 6 := by simp
  have hB7 : Below w.heap.size w ((((((w.alloc (.cells #[.pointer (some ⟨M, 0, none⟩)] 65)).alloc (.cells #[.int .i64 p.op, .int .u64 p.set.a, .int .u64 p.set.b, .int .u64 p.set.c, .int .u64 p.set.d, .int .i64 p.lo, .int .i64 p.hi, .int .i64 p.gr, .slice (some ⟨bb, o, none⟩) 1 cap] 28)).alloc (.cells #[.slice none 0 0] 39)).alloc (.map #[] 0)).alloc (.cells #[.map (some (w.heap.size + 1 + 1 + 1))] 103)).alloc (.cells #[(.func (.func 56) #[] #[.pointer (some ⟨w.heap.size + 1, 0, none⟩), .pointer (some ⟨w.heap.size + 1 + 1 + 1 + 1, 0, none⟩), .pointer (some ⟨w.heap.size, 0, none⟩), .pointer (some ⟨w.heap.size + 1 + 1 + 1 + 1 + 1, 0, none⟩), .pointer (some ⟨w.heap.size + 1 + 1, 0, none⟩)])] 104)) := ((((((Below.refl _ _).alloc (Nat.le_refl _) _).alloc (by simp) _).alloc (by simp; omega) _).alloc (by simp; omega) _).alloc (by simp; omega) _).alloc (by simp; omega) _
  have hR : RpAt s lines [.int .i64 p.op, .int .u64 p.set.a, .int .u64 p.set.b, .int .u64 p.set.c, .int .u64 p.set.d, .int .i64 p.lo, .int .i64 p.hi, .int .i64 p.gr, .slice (some ⟨bb, o, none⟩) 1 cap] M (w.heap.size + 1) (w.heap.size + 1 + 1 + 1 + 1) w.heap.size (w.heap.size + 1 + 1 + 1 + 1 + 1) (w.heap.size + 1 + 1) (w.heap.size + 1 + 1 + 1) (.slice none 0 0) [] [] ((((((w.alloc (.cells #[.pointer (some ⟨M, 0, none⟩)] 65)).alloc (.cells #[.int .i64 p.op, .int .u64 p.set.a, .int .u64 p.set.b, .int .u64 p.set.c, .int .u64 p.set.d, .int .i64 p.lo, .int .i64 p.hi, .int .i64 p.gr, .slice (some ⟨bb, o, none⟩) 1 cap] 28)).alloc (.cells #[.slice none 0 0] 39)).alloc (.map #[] 0)).alloc (.cells #[.map (some (w.heap.size + 1 + 1 + 1))] 103)).alloc (.cells #[(.func (.func 56) #[] #[.pointer (some ⟨w.heap.size + 1, 0, none⟩), .pointer (some ⟨w.heap.size + 1 + 1 + 1 + 1, 0, none⟩), .pointer (some ⟨w.heap.size, 0, none⟩), .pointer (some ⟨w.heap.size + 1 + 1 + 1 + 1 + 1, 0, none⟩), .pointer (some ⟨w.heap.size + 1 + 1, 0, none⟩)])] 104)) := by
    refine ⟨⟨hM.below hB7 hM.lt, ((((Row.new (by simp)).alloc _).alloc _).alloc _).alloc _, (((((Row.new rfl).alloc _).alloc _).alloc _).alloc _).alloc _, (Row.new (by simp)).alloc _, Row.new (by simp)⟩, ?_, ((((Row.new (by simp)).alloc _).alloc _).alloc _), OwnP.nil _ _⟩
    have h1 := KSet.new (enc := encS) (w := (((w.alloc (.cells #[.pointer (some ⟨M, 0, none⟩)] 65)).alloc (.cells #[.int .i64 p.op, .int .u64 p.set.a, .int .u64 p.set.b, .int .u64 p.set.c, .int .u64 p.set.d, .int .i64 p.lo, .int .i64 p.hi, .int .i64 p.gr, .slice (some ⟨bb, o, none⟩) 1 cap] 28)).alloc (.cells #[.slice none 0 0] 39))) (M := w.heap.size + 1 + 1 + 1) (by simp)
    exact (h1.below ((Below.refl _ _).alloc (Nat.le_refl _) _)).below ((Below.refl _ _).alloc (Nat.le_refl _) _)
  have hws : wb.heap.size ≤ w.heap.size := hbw.size
  obtain ⟨r, hr⟩ : ∃ r, r = visit p (withinAll [x0]) (firstP s.data.toList lines [x0]) 4097 (0, i, sp) ([], []) := ⟨_, rfl⟩
  have hic := pvisit_any wb N hN s hs lines p x0 bb o cap hop HX0 hIn hok hsz hlo hhi ht M (w.heap.size + 1) (w.heap.size + 1 + 1 + 1 + 1) w.heap.size (w.heap.size + 1 + 1 + 1 + 1 + 1) (w.heap.size + 1 + 1) (w.heap.size + 1 + 1 + 1) ⟨by omega, by omega⟩ 4097 ((((((w.alloc (.cells #[.pointer (some ⟨M, 0, none⟩)] 65)).alloc (.cells #[.int .i64 p.op, .int .u64 p.set.a, .int .u64 p.set.b, .int .u64 p.set.c, .int .u64 p.set.d, .int .i64 p.lo, .int .i64 p.hi, .int .i64 p.gr, .slice (some ⟨bb, o, none⟩) 1 cap] 28)).alloc (.cells #[.slice none 0 0] 39)).alloc (.map #[] 0)).alloc (.cells #[.map (some (w.heap.size + 1 + 1 + 1))] 103)).alloc (.cells #[(.func (.func 56) #[] #[.pointer (some ⟨w.heap.size + 1, 0, none⟩), .pointer (some ⟨w.heap.size + 1 + 1 + 1 + 1, 0, none⟩), .pointer (some ⟨w.heap.size, 0, none⟩), .pointer (some ⟨w.heap.size + 1 + 1 + 1 + 1 + 1, 0, none⟩), .pointer (some ⟨w.heap.size + 1 + 1, 0, none⟩)])] 104)) (.slice none 0 0) [] [] 0 i sa sc sp hR (hbw.trans (hB7.mono hws)) ⟨fun _ h => (by cases h), by simp, by simp, fun _ h => (by cases h)⟩ (hsp.of fun _ _ hr => hr.below hB7 hr.lt) hspo hi (by omega) (by simp)
  rw [← hr] at hic ⊢
  have HIC := hid hic
  have HR := hid (⟨hR, hB7⟩ : _ ∧ _)
  clear hic hR hB7 hop HX0 hIn hok hsz hM hsp hr ht hw6
  go_enter Tryd.func51, Tryd.ntmps51
  go_wp2_with (with_reducible (refine wpList_store_new rfl 104 _ _ rfl (w.heap.size + 1 + 1 + 1 + 1 + 1) ?hsz (.func (.func 56) #[] #[.pointer (some ⟨w.heap.size + 1, 0, none⟩), .pointer (some ⟨w.heap.size + 1 + 1 + 1 + 1, 0, none⟩), .pointer (some ⟨w.heap.size, 0, none⟩), .pointer (some ⟨w.heap.size + 1 + 1 + 1 + 1 + 1, 0, none⟩), .pointer (some ⟨w.heap.size + 1 + 1, 0, none⟩)]) rfl rfl rfl ?hi ?_))
  case hsz => simp
  case hi => kernel_rfl
  refine HIC.out.mono ?_
  rintro e z ⟨ov', hfr, hst⟩
  have HB := hid (HR.out.2.trans (HR.out.1.low hfr (n := w.heap.size) (by omega) (by omega)))
  clear hfr HIC
  cases r with
  | none =>
    subst hst
    exact And.intro rfl ⟨HB.out, rfl⟩
  | some st =>
    obtain ⟨rfl, hp⟩ := hst
    obtain ⟨oa, oc, rfl⟩ := hp.1.2.2.2.form
    have q0 := hp.1.2.2.1.cell 0
    have HP := hid hp
    clear hp
    go_wp2_with fail
    go_ret
    exact ⟨HB.out, oa, oc, rfl, HP.out.1.2.2.2.psq.mono (fun b _ hb => by have := hb.1; omega), HP.out.2.1⟩
end Go.Proofs.YthnpbopnpdlmnaaDoor

/- The reference of the parses: trees without parts. -/
namespace Go.Proofs.YthnpbopnpdlmnaaDoor
open Go.RowKit
attribute [local go_sem] gives givesUpon

end Go.Proofs.YthnpbopnpdlmnaaDoor

/- The reference of the parses: trees without parts. -/
namespace Go.Proofs.YthnpbopnpdlmnaaDoor
open Go.RowKit
attribute [local go_sem] gives givesUpon

end Go.Proofs.YthnpbopnpdlmnaaDoor

/- The reference of the parses: trees without parts. -/
namespace Go.Proofs.YthnpbopnpdlmnaaDoor
open Go.RowKit
attribute [local go_sem] gives givesUpon

end Go.Proofs.YthnpbopnpdlmnaaDoor

/- The reference of the parses: trees without parts. -/
namespace Go.Proofs.YthnpbopnpdlmnaaDoor
open Go.RowKit
attribute [local go_sem] gives givesUpon

end Go.Proofs.YthnpbopnpdlmnaaDoor

/- The reference of the parses: trees without parts. -/
namespace Go.Proofs.YthnpbopnpdlmnaaDoor
open Go.RowKit
attribute [local go_sem] gives givesUpon

end Go.Proofs.YthnpbopnpdlmnaaDoor

/- The reference of the parses: repetitions, and trees of every kind. -/
namespace Go.Proofs.YthnpbopnpdlmnaaDoor
open Go.RowKit
attribute [local go_sem] gives givesUpon

theorem parses_rep {s : List UInt8} {lines : Bool} {p : Pay} {xs : List Re} {i : Nat} {sp : Spans} (hop : p.op = 5) : parses s lines (.mk p xs) i sp = (visit p (withinAll xs) (firstP s lines xs) (most + 1) (0, i, sp) ([], [])).bind fun st => fin s.length st.2 := by
  rw [parses]
  simp only [hop]
  rfl
def Pay.repOk (p : Pay) : Prop := p.op = 5 → (0 ≤ p.lo ∧ p.lo ≤ 1000) ∧ (-1 ≤ p.hi ∧ p.hi ≤ 1000)
mutual
def Re.reps : Re → Prop
  | .mk p xs => p.repOk ∧ Re.repsAll xs
def Re.repsAll : List Re → Prop
  | [] => True
  | x :: xs => x.reps ∧ Re.repsAll xs
end
mutual
theorem Re.reps_ranged : ∀ (t : Re) (b n : Nat), t.ranged b = some n → t.reps
  | .mk p xs, b, n, h => by
    rw [Re.ranged] at h
    split at h
    · cases h
    · rename_i h5
      rw [Re.reps]
      have hp : p.repOk := by
        intro ho
        have h6 : p.badRep = false := by
          cases hb : p.badRep with
          | false => rfl
          | true => exact absurd ⟨ho, hb⟩ h5
        simp only [Pay.badRep, Bool.or_eq_false_iff, Bool.and_eq_false_iff, decide_eq_false_iff_not] at h6
        omega
      split at h
      · split at h
        · exact ⟨hp, Re.repsAll_ranged xs _ n h⟩
        · cases h
      · exact ⟨hp, Re.repsAll_ranged xs _ n h⟩
theorem Re.repsAll_ranged : ∀ (xs : List Re) (b n : Nat), Re.rangeds xs b = some n → Re.repsAll xs
  | [], b, n, h => by rw [Re.repsAll]; trivial
  | t :: ts, b, n, h => by
    rw [Re.rangeds] at h
    rw [Re.repsAll]
    cases hr : t.ranged b with
    | none => rw [hr] at h; cases h
    | some b2 =>
      rw [hr] at h
      exact ⟨Re.reps_ranged t b b2 hr, Re.repsAll_ranged ts b2 n h⟩
end
theorem Re.reps_err {t : Re} (h : t.err = 0) : t.reps := by
  unfold Re.err at h
  cases h1 : t.typed with
  | false => simp [h1] at h
  | true =>
    cases h2 : t.ranged 0 with
    | none => simp [h1, h2] at h
    | some n => exact Re.reps_ranged t 0 n h2
end Go.Proofs.YthnpbopnpdlmnaaDoor
