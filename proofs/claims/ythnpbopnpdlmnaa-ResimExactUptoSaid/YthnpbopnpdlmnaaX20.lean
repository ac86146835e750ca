/- One search in memory, and many: what reach and next do to its threads. -/
import Derived.Test.YthnpbopnpdlmnaaX17
import Derived.Test.YthnpbopnpdlmnaaX19
import Derived.Test.YthnpbopnpdlmnaaX16
import Derived.Great.BuildSlice
namespace Go.Proofs.Ythnpbopnpdlmnaa
open Go.RowKit
attribute [local go_sem] gives givesUpon

def nilV : Value := .slice none 0 0
theorem ob_nil : ob nilV = [] := rfl
theorem RchM.weak {wb w0 w : World} {m : Sim} {M : Nat} {a : Option Addr} {c : Nat} {str : ByteArray} {st : Int} {sv0 : Value} {mk : Nat → Int} {sv : Value} {St : List Nat} {lv : Value} {T : List (Nat × Nat)} (lv0 : Value) (h : RchM wb w0 m M a c str st sv0 nilV mk sv St lv T w) : RchM wb w0 m M a c str st sv0 lv0 mk sv St lv T w :=
  ⟨h.sim, h.stk, h.lst, h.lo, h.low, h.but.mono fun k hk => .inl (by rw [ob_nil] at hk; simp only [List.mem_cons, List.mem_append] at hk ⊢; rcases hk with hk | hk | hk; exact .inl hk; exact .inr (.inl hk); cases hk), h.os, fun g hg => (h.ol g hg).imp (fun h1 => by rw [ob_nil] at h1; cases h1) id⟩
def Sgl (wb w0 : World) (m : Sim) (M : Nat) (a : Option Addr) (c : Nat) (str : ByteArray) (f i : Nat) (st : Int) (lv : Value) (T : List (Nat × Nat)) (w : World) : Prop :=
  ∃ mk sv St, RchM wb w0 m M a c str st nilV nilV mk sv St lv T w ∧ Thr m f i (· ≤ f) T ∧ (∀ k, mk k ≤ st) ∧ T.length ≤ m.L.length
theorem Sgl.more {wb w0 w w' : World} {m : Sim} {M : Nat} {a : Option Addr} {c : Nat} {str : ByteArray} {f i : Nat} {st : Int} {lv : Value} {T : List (Nat × Nat)} (h : Sgl wb w0 m M a c str f i st lv T w) (hb : Below w.heap.size w w') : Sgl wb w0 m M a c str f i st lv T w' := by
  obtain ⟨mk, sv, St, h1, h2⟩ := h
  exact ⟨mk, sv, St, h1.more hb, h2⟩
theorem sgl_first (wb w0 w : World) (m : Sim) (M : Nat) (a : Option Addr) (c : Nat) (str : ByteArray) (f : Nat) (env : Env wb m a str) (h : RchM wb w0 m M a c str 1 nilV nilV (fun _ => 0) nilV [] nilV [] w) (hf : f ≤ str.size) :
    Calls Try.prog 41 #[.pointer (some ⟨M, 0, none⟩), .slice none 0 0, .int .i64 0, .int .i64 f, .int .i64 f] w fun e w' => ∃ lv T, e = .returned lv ∧ Sgl wb w0 m M a c str f f 1 lv T w' := by
  have hs := env.short
  refine (reach_any wb w m M a c str 1 nilV nilV (fun _ => 0) [] [] 0 f f env h.again env.right.1.1 hf (by omega) (by simp) (fun k hk => absurd hk (by simp))).mono ?_
  rintro e w' ⟨mk', sv', lv', news, rfl, hr, hnd, hmem, hv, ho, hl⟩
  refine ⟨lv', _, rfl, mk', sv', [], h.then hr, ?_, fun k => ?_, ?_⟩
  · rw [List.nil_append]
    exact Thr.one hnd fun k => by rw [hmem k]; simp
  · rcases ho k with h1 | h1
    · omega
    · rw [h1]; exact (show (0 : Int) ≤ 1 by decide)
  · have := unv_le (fun _ => 0) 1 m.L.length
    simp
    omega
theorem sgl_next (wb w0 w : World) (m : Sim) (M : Nat) (a : Option Addr) (c : Nat) (str : ByteArray) (f i : Nat) (st : Int) (lv : Value) (T : List (Nat × Nat)) (env : Env wb m a str) (h : Sgl wb w0 m M a c str f i st lv T w) (hf : f ≤ i) (hi : i < str.size) (hst : 0 ≤ st ∧ st ≤ 1000000) :
    Calls Try.prog 42 #[.pointer (some ⟨M, 0, none⟩), lv, .int .i64 i, .func (.func 43) #[] #[]] w fun e w' => ∃ lv' T', e = .returned lv' ∧ Sgl wb w0 m M a c str f (i + 1) (st + 1) lv' T' w' := by
  obtain ⟨mk, sv, St, hr, ht, hm, hl⟩ := h
  have hs := env.short
  have hn := env.right.1.2
  refine (next_all_any wb w m M a c str st sv lv mk St T i (fun _ => true) env hr.again hi (by omega) (fun t hm => ⟨ht.lt env.right hm, ?_⟩) hm hst (fun w' t _ => all_any t.1 t.2 w')).mono ?_
  · have h1 : t.2 ≤ f := (ht.src t.1 t.2 hm).2.2.1
    omega
  rintro e w' ⟨mk', sv', lv', St', out, rfl, hr', ho, -, hm', -, hl'⟩
  exact ⟨lv', out, rfl, mk', sv', St', hr.then (hr'.weak lv), ht.next1 hf ho, hm', by omega⟩
def Mny (wb w0 : World) (m : Sim) (M : Nat) (a : Option Addr) (c : Nat) (str : ByteArray) (lo i : Nat) (b : Option (Nat × Nat)) (st : Int) (lv : Value) (T : List (Nat × Nat)) (w : World) : Prop :=
  ∃ mk sv St, RchM wb w0 m M a c str st nilV nilV mk sv St lv T w ∧ Thr m lo i (fun f => f < i ∧ live b i f) T ∧ (∀ k, mk k ≤ st) ∧ (∀ k, m.leaf k → (mk k = st ↔ k ∈ T.map Prod.fst)) ∧ (∀ k, mk k = st → ∀ j, j ∈ m.eps i k → mk j = st) ∧ T.length + unv mk st m.L.length ≤ m.L.length
def Mnz (wb w0 : World) (m : Sim) (M : Nat) (a : Option Addr) (c : Nat) (str : ByteArray) (lo i : Nat) (b : Option (Nat × Nat)) (st : Int) (lv : Value) (T : List (Nat × Nat)) (w : World) : Prop :=
  ∃ mk sv St, RchM wb w0 m M a c str st nilV nilV mk sv St lv T w ∧ Thr m lo i (live b i) T ∧ (∀ k, mk k ≤ st) ∧ T.length ≤ m.L.length
theorem Mnz.more {wb w0 w w' : World} {m : Sim} {M : Nat} {a : Option Addr} {c : Nat} {str : ByteArray} {lo i : Nat} {b : Option (Nat × Nat)} {st : Int} {lv : Value} {T : List (Nat × Nat)} (h : Mnz wb w0 m M a c str lo i b st lv T w) (hb : Below w.heap.size w w') : Mnz wb w0 m M a c str lo i b st lv T w' := by
  obtain ⟨mk, sv, St, h1, h2⟩ := h
  exact ⟨mk, sv, St, h1.more hb, h2⟩
theorem mny_new {wb w0 w : World} {m : Sim} {M : Nat} {a : Option Addr} {c : Nat} {str : ByteArray} {lo : Nat} (h : RchM wb w0 m M a c str 1 nilV nilV (fun _ => 0) nilV [] nilV [] w) : Mny wb w0 m M a c str lo lo none 1 nilV [] w := by
  refine ⟨_, _, _, h, Thr.none m lo lo (fun f h1 h2 => by omega), fun k => (show (0 : Int) ≤ 1 by decide), fun k _ => by simp, fun k hk => absurd hk (by simp), ?_⟩
  have := unv_le (fun _ => 0) 1 m.L.length
  simpa using this
theorem Mny.found {wb w0 w : World} {m : Sim} {M : Nat} {a : Option Addr} {c : Nat} {str : ByteArray} {lo i F E : Nat} {st : Int} {lv : Value} {T : List (Nat × Nat)} (h : Mny wb w0 m M a c str lo i (some (F, E)) st lv T w) (hb : Best m lo i (some (F, E))) : Mnz wb w0 m M a c str lo i (some (F, E)) st lv T w := by
  obtain ⟨mk, sv, St, hr, ht, hm, hk, hc, hl⟩ := h
  refine ⟨mk, sv, St, hr, ht.congr fun f _ => ⟨fun h => h.2, fun h => ⟨?_, h⟩⟩, hm, by omega⟩
  have h1 := h.2 F E rfl
  have h2 := hb.2.1
  have h3 := hb.2.2.1
  omega
theorem Row.ne {w : World} {B B' : Nat} {cs cs' : List Value} {T T' : TypeId} (r : Row w B cs T) (r' : Row w B' cs' T') (hne : T ≠ T') : B ≠ B' := by
  intro e
  subst e
  unfold Row at r r'
  rw [r] at r'
  simp only [Option.some.injEq, Obj.cells.injEq] at r'
  exact hne r'.2.1
theorem BestAt.apart {wb w0 w : World} {m : Sim} {M : Nat} {a : Option Addr} {c : Nat} {str : ByteArray} {st : Int} {sv0 lv0 : Value} {mk : Nat → Int} {sv : Value} {St : List Nat} {lv : Value} {T : List (Nat × Nat)} {fp bp : Nat} {b : Option (Nat × Nat)} (h : BestAt w fp bp b) (hr : RchM wb w0 m M a c str st sv0 lv0 mk sv St lv T w) : fp ∉ M :: ob sv ∧ bp ∉ M :: ob sv := by
  obtain ⟨CS, hrow, -⟩ := hr.sim
  refine ⟨fun hm => ?_, fun hm => ?_⟩
  · rcases List.mem_cons.1 hm with h1 | h1
    · exact h.f.ne hrow (by decide) h1
    · exact h.f.ne_own hr.stk (by decide) _ (mem_ob.1 h1) rfl
  · rcases List.mem_cons.1 hm with h1 | h1
    · exact h.b.ne hrow (by decide) h1
    · exact h.b.ne_own hr.stk (by decide) _ (mem_ob.1 h1) rfl
theorem BestAt.apart2 {wb w0 w : World} {m : Sim} {M : Nat} {a : Option Addr} {c : Nat} {str : ByteArray} {st : Int} {sv0 lv0 : Value} {mk : Nat → Int} {sv : Value} {St : List Nat} {lv : Value} {T : List (Nat × Nat)} {fp bp : Nat} {b : Option (Nat × Nat)} (h : BestAt w fp bp b) (hr : RchM wb w0 m M a c str st sv0 lv0 mk sv St lv T w) : fp ∉ M :: (ob sv ++ ob lv) ∧ bp ∉ M :: (ob sv ++ ob lv) := by
  obtain ⟨h1, h2⟩ := h.apart hr
  refine ⟨fun hm => ?_, fun hm => ?_⟩
  · simp only [List.mem_cons, List.mem_append] at hm h1
    rcases hm with hm | hm | hm
    · exact h1 (.inl hm)
    · exact h1 (.inr hm)
    · exact h.f.ne_own hr.lst (by decide) _ (mem_ob.1 hm) rfl
  · simp only [List.mem_cons, List.mem_append] at hm h2
    rcases hm with hm | hm | hm
    · exact h2 (.inl hm)
    · exact h2 (.inr hm)
    · exact h.b.ne_own hr.lst (by decide) _ (mem_ob.1 hm) rfl
theorem BestAt.set {w : World} {M fp bp : Nat} {b : Option (Nat × Nat)} (h : BestAt w fp bp b) (h1 : fp ≠ M) (h2 : bp ≠ M) (o : Nat) (v : Value) : BestAt (w.setCell ⟨M, o, none⟩ v) fp bp b :=
  ⟨(Below.heap_setCell _ _ _ _ h1).trans h.f, (Below.heap_setCell _ _ _ _ h2).trans h.b⟩
theorem RchM.other {wb w0 w : World} {m : Sim} {M : Nat} {a : Option Addr} {c : Nat} {str : ByteArray} {st : Int} {sv0 lv0 : Value} {mk : Nat → Int} {sv : Value} {St : List Nat} {lv : Value} {T : List (Nat × Nat)} (h : RchM wb w0 m M a c str st sv0 lv0 mk sv St lv T w) {p : Nat} (hp : p ∉ M :: (ob sv ++ ob lv)) (h1 : wb.heap.size ≤ p) (h2 : w0.heap.size ≤ p) (o : Nat) (v : Value) :
    RchM wb w0 m M a c str st sv0 lv0 mk sv St lv T (w.setCell ⟨p, o, none⟩ v) := by
  simp only [List.mem_cons, List.mem_append, not_or] at hp
  obtain ⟨p1, p2, p3⟩ := hp
  exact ⟨h.sim.kept (Below.heap_setCell _ _ _ _ (Ne.symm p1)), ownsRow_heap h.stk fun g hg => Below.heap_setCell _ _ _ _ (fun e => p2 (mem_ob.2 (by have e' : g = p := e; rw [← e']; exact hg))), ownsRow_heap h.lst fun g hg => Below.heap_setCell _ _ _ _ (fun e => p3 (mem_ob.2 (by have e' : g = p := e; rw [← e']; exact hg))), h.lo, h.low.setCell h1 _, h.but.setCell (.inr h2) _, h.os, h.ol⟩
theorem mnz_found {wb w0 w : World} {m : Sim} {M : Nat} {a : Option Addr} {c : Nat} {str : ByteArray} {lo i : Nat} {b b' : Option (Nat × Nat)} {st : Int} {lv : Value} {T : List (Nat × Nat)} {fp bp F E : Nat} (h : Mnz wb w0 m M a c str lo i b st lv T w) (hat : BestAt w fp bp b') (h1 : wb.heap.size ≤ w0.heap.size ∧ w0.heap.size ≤ fp ∧ w0.heap.size ≤ bp) :
    Mnz wb w0 m M a c str lo i b st lv T (((w.setCell ⟨bp, 0, none⟩ (.int .i64 F)).setCell ⟨bp, 1, none⟩ (.int .i64 E)).setCell ⟨fp, 0, none⟩ (.bool true)) ∧ BestAt (((w.setCell ⟨bp, 0, none⟩ (.int .i64 F)).setCell ⟨bp, 1, none⟩ (.int .i64 E)).setCell ⟨fp, 0, none⟩ (.bool true)) fp bp (some (F, E)) := by
  obtain ⟨mk, sv, St, hr, h2⟩ := h
  have ha := hat.apart2 hr
  have hne : fp ≠ bp := hat.f.ne hat.b (by decide)
  have hr1 := hr.other ha.2 (by omega) h1.2.2 0 (.int .i64 F)
  have hr2 := hr1.other ha.2 (by omega) h1.2.2 1 (.int .i64 E)
  have hr3 := hr2.other ha.1 (by omega) h1.2.1 0 (.bool true)
  refine ⟨⟨mk, sv, St, hr3, h2⟩, ?_, ?_⟩
  · have hf : Row ((w.setCell ⟨bp, 0, none⟩ (.int .i64 F)).setCell ⟨bp, 1, none⟩ (.int .i64 E)) fp [.bool b'.isSome] 4 := (Below.heap_setCell _ _ _ _ hne).trans ((Below.heap_setCell _ _ _ _ hne).trans hat.f)
    exact hf.set 0 (.bool true)
  · exact (Below.heap_setCell _ _ _ _ (Ne.symm hne)).trans ((hat.b.set 0 (.int .i64 F)).set 1 (.int .i64 E))
theorem mny_reach (wb w0 w : World) (m : Sim) (M : Nat) (a : Option Addr) (c : Nat) (str : ByteArray) (lo i : Nat) (st : Int) (lv : Value) (T : List (Nat × Nat)) (env : Env wb m a str) {fp bp : Nat} (h : Mny wb w0 m M a c str lo i none st lv T w) (hat : BestAt w fp bp none) (hlo : lo ≤ i) (hi : i ≤ str.size) :
    Calls Try.prog 41 #[.pointer (some ⟨M, 0, none⟩), lv, .int .i64 0, .int .i64 i, .int .i64 i] w fun e w' => ∃ lv' T', e = .returned lv' ∧ Mnz wb w0 m M a c str lo i none st lv' T' w' ∧ BestAt w' fp bp none := by
  obtain ⟨mk, sv, St, hr, ht, hm, hk, hc, hl⟩ := h
  have hs := env.short
  have hn := env.right.1.2
  refine (reach_any wb w m M a c str st sv lv mk St T 0 i i env hr.again env.right.1.1 hi (by omega) (by omega) hc).mono ?_
  rintro e w' ⟨mk', sv', lv', news, rfl, hr', hnd, hmem, hv, ho, hl'⟩
  refine ⟨lv', _, rfl, ⟨mk', sv', [], hr.then hr', ?_, fun k => ?_, ?_⟩, hat.but hr'.but (hat.apart2 hr).1 (hat.apart2 hr).2⟩
  · refine ht.start (fun f _ => ⟨fun h => h.1, fun h => ⟨h, by omega, fun _ _ e => by cases e⟩⟩) (fun f _ => ⟨fun h => h.1, fun h => ⟨h, fun _ _ e => by cases e⟩⟩) hlo hnd fun k => ?_
    rw [hmem k]
    constructor
    · rintro ⟨h1, h2, h3⟩
      exact ⟨h1, h2, fun h4 => h3 ((hk k h1).2 h4)⟩
    · rintro ⟨h1, h2, h3⟩
      exact ⟨h1, h2, fun h4 => h3 ((hk k h1).1 h4)⟩
  · have := hm k
    rcases ho k with h1 | h1 <;> omega
  · rw [List.length_append, List.length_map]
    omega
theorem kept_iff {b : Option (Nat × Nat)} {k f i : Nat} (hf : f ≤ i) : kept b (k, f) = true ↔ live b i f := by
  unfold kept live
  match b with
  | none => simp [hf]
  | some (F, E) =>
    simp only [Option.isSome_some, Bool.not_true, Bool.false_or, Option.getD_some, decide_eq_true_eq]
    constructor
    · intro h
      exact ⟨hf, fun F' E' e => by injection e with e; injection e with e1 e2; omega⟩
    · intro h
      exact h.2 F E rfl
theorem mny_next (wb w0 w : World) (m : Sim) (M : Nat) (a : Option Addr) (c : Nat) (str : ByteArray) (lo i : Nat) (b b' : Option (Nat × Nat)) (st : Int) (lv : Value) (T : List (Nat × Nat)) (fp bp : Nat) (env : Env wb m a str) (h : Mnz wb w0 m M a c str lo i b st lv T w) (hb : ∀ f, live b' i f → live b i f) (_hbe : Best m lo (i + 1) b')
    (hat : BestAt w fp bp b') (hi : i < str.size) (hst : 0 ≤ st ∧ st ≤ 1000000) :
    Calls Try.prog 42 #[.pointer (some ⟨M, 0, none⟩), lv, .int .i64 i, .func (.func 44) #[] #[.pointer (some ⟨fp, 0, none⟩), .pointer (some ⟨bp, 0, none⟩)]] w fun e w' => ∃ lv' T', e = .returned lv' ∧ Mny wb w0 m M a c str lo (i + 1) b' (st + 1) lv' T' w' ∧ BestAt w' fp bp b' := by
  obtain ⟨mk, sv, St, hr, ht, hm, hl⟩ := h
  have hs := env.short
  have hn := env.right.1.2
  have hno := hat.apart hr
  refine (next_keep_any wb w m M a c str st sv lv mk St T i fp bp (kept b') env hr.again hi (by omega) (fun t hm => ⟨ht.lt env.right hm, ?_⟩) hm hst (fun w' t hbu => keep_any t fp bp b' w' (hat.but hbu hno.1 hno.2))).mono ?_
  · have h1 : t.2 ≤ i := (ht.src t.1 t.2 hm).2.2.1.1
    omega
  rintro e w' ⟨mk', sv', lv', St', out, rfl, hr', ho, hv', hm', hc', hl'⟩
  refine ⟨lv', out, rfl, ⟨mk', sv', St', hr.then (hr'.weak lv), ?_, hm', fun k hk => ?_, hc', hl'⟩, ?_⟩
  · have h1 := ht.next (P' := live b' i) (kp := kept b') ho (fun f hf => hf.1) (fun k f hk => kept_iff (ht.src k f hk).2.2.1.1) hb (fun f g _ hg hf => ⟨by have := hf.1; omega, fun F E e => Nat.le_trans hg (hf.2 F E e)⟩)
    refine h1.congr fun f _ => ⟨fun h => ⟨by have := h.1; omega, by have := h.1; omega, h.2⟩, fun h => ⟨by omega, h.2.2⟩⟩
  · rw [hv' k, ho.mem hk]
  · refine hat.but hr'.but ?_ ?_
    · have h1 := hno.1
      simpa [ob, Value.ownBlock] using h1
    · have h1 := hno.2
      simpa [ob, Value.ownBlock] using h1
end Go.Proofs.Ythnpbopnpdlmnaa

/- Valid of any program: the program's and the reference's. Written by gen_valid.py. -/
namespace Go.Proofs.Ythnpbopnpdlmnaa
open Go.RowKit
attribute [local go_sem] gives givesUpon

set_option maxHeartbeats 1000000 in
theorem there2_any (k : Int) (n : Nat) (B : Nat) (w : World) (hB : Row w B [.int .i64 n] 3) :
    Calls Try.prog 96 #[.int .i64 k, .pointer (some ⟨B, 0, none⟩)] w fun e w' => e = .returned (.bool (decide (0 ≤ k) && decide (k < n))) ∧ w' = w := by
  have q := hB.c1
  rcases Int.lt_or_le k 0 with h0 | h0
  · go_enter Try.func96, Try.ntmps96
    go_wp2
    all_goals go_ret
    all_goals exact ⟨ret_bool (by simp; try omega), rfl⟩
  · go_enter Try.func96, Try.ntmps96
    go_wp2
    all_goals go_ret
    all_goals exact ⟨ret_bool (by simp; try omega), rfl⟩
def VPost (L : List Inst) (w : World) (e : Ending) (w' : World) : Prop := ∃ b, e = .returned (.bool b) ∧ (b = true ↔ rightAll L) ∧ Below w.heap.size w w'
theorem not_right {L : List Inst} {k : Nat} (h : k < L.length) (hn : ¬ L[k].right L.length k) : ¬ rightAll L := fun hr => hn (hr.2 k h)
set_option maxRecDepth 100000 in
set_option maxHeartbeats 8000000 in
theorem Valid2_any (w : World) (a : Option Addr) (c : Nat) (L : List Inst) (lines : Bool) (h : InsAt w a L) (hn : L.length ≤ 4096) :
    Calls Try.prog 67 #[.agg #[.slice a L.length c, .bool lines]] w (VPost L w) := by
  have H := hid h
  clear h
  have HPT : Hid (∀ w', rightAll L → Below w.heap.size w w' → VPost L w (.returned (.bool true)) w') := fun w' h1 h2 => ⟨true, rfl, by simp [h1], h2⟩
  have HPF : Hid (∀ w', ¬ rightAll L → Below w.heap.size w w' → VPost L w (.returned (.bool false)) w') := fun w' h1 h2 => ⟨false, rfl, by simp [h1], h2⟩
  generalize VPost L w = PP at *
  have HB0 : Hid (Below w.heap.size w ((w.alloc (.cells #[.slice a L.length c, .bool lines] 59)).alloc (.cells #[.int .i64 L.length] 3)) ∧ Row ((w.alloc (.cells #[.slice a L.length c, .bool lines] 59)).alloc (.cells #[.int .i64 L.length] 3)) (w.heap.size + 1) [.int .i64 L.length] 3) := ⟨(Grow.alloc w _).trans (Grow.alloc _ _), Row.new (by simp)⟩
  rcases Nat.eq_zero_or_pos L.length with h0 | h0
  · have HNR : Hid (¬ rightAll L) := fun hr => by have := hr.1.1; omega
    have hB1 := HB0.out.1
    rw [h0] at hB1
    have HB1 := hid hB1
    clear hB1
    go_enter Try.func67, Try.ntmps67
    go_wp2_with fail
    all_goals (try go_ret)
    all_goals exact HPF.out _ HNR.out HB1.out
  go_enter Try.func67, Try.ntmps67
  go_wp2_with fail
  generalize ((w.alloc (.cells #[.slice a L.length c, .bool lines] 59)).alloc (.cells #[.int .i64 L.length] 3)) = w1 at *
  generalize w.heap.size + 1 = nb at *
  go_loopw [21] (fun v wr => ∃ k : Nat, k ≤ L.length ∧ v = .int .i64 k ∧ (Hid (Below w.heap.size w wr ∧ Row wr nb [.int .i64 L.length] 3)) ∧ Hid (∀ j (h : j < L.length), j < k → L[j].right L.length j)) (fun v _ => L.length - (intOf v).toNat)
  case atStart => exact ⟨0, by omega, rfl, HB0.out, fun j h hj => absurd hj (by omega)⟩
  case round =>
    obtain ⟨k, hk, rfl, HX, HK⟩ := hrel
    rcases Nat.lt_or_ge k L.length with hlt | hge
    · have HNR := hid (fun hn => @not_right L k hlt hn)
      have HST : Hid (L[k].right L.length k → ∀ j (h : j < L.length), j < k + 1 → L[j].right L.length j) := by
        intro h1 j h hj
        rcases Nat.lt_or_ge j k with h2 | h2
        · exact HK.out j h h2
        · obtain rfl : j = k := by omega
          exact h1
      obtain ⟨fb, fo, hfa, hfb, hfc⟩ := (H.out.below HX.out.1 (Nat.le_refl _)).at hlt
      subst hfa
      have q2 := HX.out.2.c1
      have z2 := HX.out.2.lt
      generalize L[k] = f at *
      obtain ⟨fop, fset, fx, fy⟩ := f
      have q := cells7 (show CellsAt wr fb (fo + k * 7) [.int .i64 fop, .int .u64 fset.a, .int .u64 fset.b, .int .u64 fset.c, .int .u64 fset.d, .int .i64 fx, .int .i64 fy] from hfc)
      have HBA : Hid (Below wr.heap.size wr (wr.alloc (.cells #[.int .i64 fop, .int .u64 fset.a, .int .u64 fset.b, .int .u64 fset.c, .int .u64 fset.d, .int .i64 fx, .int .i64 fy] 87))) := (Below.refl _ _).alloc (Nat.le_refl _) _
      have HBX : Hid (Row (wr.alloc (.cells #[.int .i64 fop, .int .u64 fset.a, .int .u64 fset.b, .int .u64 fset.c, .int .u64 fset.d, .int .i64 fx, .int .i64 fy] 87)) wr.heap.size [.int .i64 fop, .int .u64 fset.a, .int .u64 fset.b, .int .u64 fset.c, .int .u64 fset.d, .int .i64 fx, .int .i64 fy] 87) := Row.at wr [.int .i64 fop, .int .u64 fset.a, .int .u64 fset.b, .int .u64 fset.c, .int .u64 fset.d, .int .i64 fx, .int .i64 fy] _
      have HXA := hid (And.intro (HX.out.1.trans (HBA.out.mono HX.out.1.size)) (HX.out.2.below HBA.out z2))
      unfold Inst.right at HNR HST
      simp only at HNR HST
      have hkI : (k : Int) < (L.length : Int) := by omega
      clear hfc
      go_upto_region 8 with fail
      clear q q2 z2 HX HBA
      generalize wr.alloc (.cells #[.int .i64 fop, .int .u64 fset.a, .int .u64 fset.b, .int .u64 fset.c, .int .u64 fset.d, .int .i64 fx, .int .i64 fy] 87) = y at *
      generalize wr.heap.size = bx at *
      have q := row7 HBX.out
      have q2 := HXA.out.2.c1
      have hcase : (fop = 1 ∨ fop = 4 ∨ fop = 5) ∨ fop = 2 ∨ fop = 3 ∨ fop = 6 ∨ (¬ fop = 1 ∧ ¬ fop = 2 ∧ ¬ fop = 3 ∧ ¬ fop = 4 ∧ ¬ fop = 5 ∧ ¬ fop = 6) := by omega
      rcases hcase with ho | ho | ho | ho | ho
      · have HO3 := hid ho
        rcases Nat.lt_or_ge (k + 1) L.length with hk1 | hk1
        · have hkk : decide ((k : Int) < (L.length : Int) - 1) = true := by simp; omega
          have hkJ : (k : Int) < (L.length : Int) - 1 := by omega
          rcases ho with rfl | rfl | rfl
          all_goals
            go_wp2_with fail
            case roundEnd =>
              refine ⟨⟨k + 1, hlt, rfl, HXA.out, HST.out (.inl ⟨HO3.out, hk1⟩)⟩, ?_⟩
              show L.length - ((k : Int) + 1).toNat < L.length - (k : Int).toNat
              omega
        · have hkk : decide ((k : Int) < (L.length : Int) - 1) = false := by simp; omega
          have hkJ : ¬ (k : Int) < (L.length : Int) - 1 := by omega
          rcases ho with rfl | rfl | rfl
          all_goals
            go_wp2_with fail
            all_goals (try go_ret)
            all_goals exact HPF.out _ (HNR.out (by omega)) HXA.out.1
      · subst ho
        have HT := hid (fun (v : Int) (y : World) (h : Row y nb [.int .i64 L.length] 3) => there2_any v L.length nb y h)
        rcases Decidable.em (0 ≤ fx ∧ fx < L.length) with hx | hx
        · have hb1 : (decide (0 ≤ fx) && decide (fx < (L.length : Int))) = true := by simp; omega
          rcases Decidable.em (0 ≤ fy ∧ fy < L.length) with hy | hy
          · have hb2 : (decide (0 ≤ fy) && decide (fy < (L.length : Int))) = true := by simp; omega
            go_wp2_with fail
            refine (HT.out fx _ HXA.out.2).mono ?_
            rintro e w5 ⟨rfl, rfl⟩
            rw [hb1]
            go_wp2_with fail
            refine (HT.out fy _ HXA.out.2).mono ?_
            rintro e w5 ⟨rfl, rfl⟩
            rw [hb2]
            go_wp2_with fail
            case roundEnd =>
              refine ⟨⟨k + 1, hlt, rfl, HXA.out, HST.out (.inr (.inl ⟨trivial, hx, hy⟩))⟩, ?_⟩
              show L.length - ((k : Int) + 1).toNat < L.length - (k : Int).toNat
              omega
          · have hb2 : (decide (0 ≤ fy) && decide (fy < (L.length : Int))) = false := by simp; omega
            go_wp2_with fail
            refine (HT.out fx _ HXA.out.2).mono ?_
            rintro e w5 ⟨rfl, rfl⟩
            rw [hb1]
            go_wp2_with fail
            refine (HT.out fy _ HXA.out.2).mono ?_
            rintro e w5 ⟨rfl, rfl⟩
            rw [hb2]
            go_wp2_with fail
            all_goals (try go_ret)
            all_goals exact HPF.out _ (HNR.out (by omega)) HXA.out.1
        · have hb1 : (decide (0 ≤ fx) && decide (fx < (L.length : Int))) = false := by simp; omega
          go_wp2_with fail
          refine (HT.out fx _ HXA.out.2).mono ?_
          rintro e w5 ⟨rfl, rfl⟩
          rw [hb1]
          go_wp2_with fail
          all_goals (try go_ret)
          all_goals exact HPF.out _ (HNR.out (by omega)) HXA.out.1
      · subst ho
        have HT := hid (fun (v : Int) (y : World) (h : Row y nb [.int .i64 L.length] 3) => there2_any v L.length nb y h)
        rcases Decidable.em (0 ≤ fx ∧ fx < L.length) with hx | hx
        · have hb1 : (decide (0 ≤ fx) && decide (fx < (L.length : Int))) = true := by simp; omega
          go_wp2_with fail
          refine (HT.out fx _ HXA.out.2).mono ?_
          rintro e w5 ⟨rfl, rfl⟩
          rw [hb1]
          go_wp2_with fail
          case roundEnd =>
            refine ⟨⟨k + 1, hlt, rfl, HXA.out, HST.out (.inr (.inr (.inl ⟨trivial, hx⟩)))⟩, ?_⟩
            show L.length - ((k : Int) + 1).toNat < L.length - (k : Int).toNat
            omega
        · have hb1 : (decide (0 ≤ fx) && decide (fx < (L.length : Int))) = false := by simp; omega
          go_wp2_with fail
          refine (HT.out fx _ HXA.out.2).mono ?_
          rintro e w5 ⟨rfl, rfl⟩
          rw [hb1]
          go_wp2_with fail
          all_goals (try go_ret)
          all_goals exact HPF.out _ (HNR.out (by omega)) HXA.out.1
      · subst ho
        go_wp2_with fail
        case roundEnd =>
          refine ⟨⟨k + 1, hlt, rfl, HXA.out, HST.out (.inr (.inr (.inr rfl)))⟩, ?_⟩
          show L.length - ((k : Int) + 1).toNat < L.length - (k : Int).toNat
          omega
      · obtain ⟨o1, o2, o3, o4, o5, o6⟩ := ho
        have HO := hid (And.intro o1 (And.intro o2 (And.intro o3 (And.intro o4 (And.intro o5 o6)))))
        have d1 : (fop == 1) = false := by simpa using o1
        have d2 : (fop == 2) = false := by simpa using o2
        have d3 : (fop == 3) = false := by simpa using o3
        have d4 : (fop == 4) = false := by simpa using o4
        have d5 : (fop == 5) = false := by simpa using o5
        have d6 : (fop == 6) = false := by simpa using o6
        clear o1 o2 o3 o4 o5 o6
        go_wp2_with fail
        all_goals (try go_ret)
        all_goals exact HPF.out _ (HNR.out (by have := HO.out; omega)) HXA.out.1
    · obtain rfl : k = L.length := by omega
      have HR : Hid (rightAll L) := ⟨⟨by omega, hn⟩, fun j h => HK.out j h h⟩
      go_wp2_with fail
      all_goals (try go_ret)
      all_goals exact HPT.out _ HR.out HX.out.1
end Go.Proofs.Ythnpbopnpdlmnaa

/- The program's simulate. -/
namespace Go.Proofs.Ythnpbopnpdlmnaa
open Go.RowKit
attribute [local go_sem] gives givesUpon

theorem zero_sim : Try.zeroCells92 = ((Value.slice none 0 0 :: .bool false :: .string ⟨#[]⟩ :: (List.replicate 4096 (Value.int .i64 0) ++ [.int .i64 0, .slice none 0 0])) : List Value).toArray := by kernel_rfl
theorem simC_new (a : Option Addr) (n c : Nat) (lines : Bool) (str : ByteArray) : SimC (((Try.zeroCells92.setIfInBounds 0 (.slice a n c)).setIfInBounds 1 (.bool lines)).setIfInBounds 2 (.string str)).toList a n c lines str (fun _ => 0) 0 (.slice none 0 0) := by
  rw [zero_sim]
  have hl : (List.replicate 4096 (Value.int .i64 0)).length = 4096 := List.length_replicate
  have hg : ∀ k, k < 4096 → (List.replicate 4096 (Value.int .i64 0))[k]? = some (.int .i64 0) := fun k hk => by rw [List.getElem?_replicate, if_pos hk]
  generalize List.replicate 4096 (Value.int .i64 0) = R at *
  have e : ((((Value.slice none 0 0 :: .bool false :: .string ⟨#[]⟩ :: (R ++ [.int .i64 0, .slice none 0 0])) : List Value).toArray.setIfInBounds 0 (.slice a n c)).setIfInBounds 1 (.bool lines)).setIfInBounds 2 (.string str) = ((Value.slice a n c :: .bool lines :: .string str :: (R ++ [.int .i64 0, .slice none 0 0])) : List Value).toArray := by
    rw [List.setIfInBounds_toArray, List.setIfInBounds_toArray, List.setIfInBounds_toArray]
    rfl
  rw [e]
  refine ⟨?_, rfl, rfl, rfl, fun k hk => ?_, ?_, ?_⟩
  · simp only [List.length_cons, List.length_append, hl, List.length_nil]
  · rw [show 3 + k = k + 3 by omega]
    show (R ++ [.int .i64 0, .slice none 0 0])[k]? = _
    rw [List.getElem?_append_left (by rw [hl]; exact hk)]
    exact hg k hk
  · show (R ++ [.int .i64 0, .slice none 0 0])[4096]? = _
    rw [List.getElem?_append_right (by rw [hl]; exact Nat.le_refl _), hl]
    rfl
  · show (R ++ [.int .i64 0, .slice none 0 0])[4097]? = _
    rw [List.getElem?_append_right (by rw [hl]; omega), hl]
    rfl
def SmPost (m : Sim) (a : Option Addr) (c : Nat) (str : ByteArray) (w : World) (e : Ending) (w' : World) : Prop :=
  (¬ rightAll m.L ∧ e = .returned (.pointer none) ∧ Below w.heap.size w w') ∨ (rightAll m.L ∧ ∃ M, e = .returned (.pointer (some ⟨M, 0, none⟩)) ∧ RchM w w' m M a c str 0 (.slice none 0 0) (.slice none 0 0) (fun _ => 0) (.slice none 0 0) [] (.slice none 0 0) [] w' ∧ Below w.heap.size w w')
set_option maxRecDepth 100000 in
set_option maxHeartbeats 8000000 in
theorem simulate_any (w : World) (m : Sim) (a : Option Addr) (c : Nat) (str : ByteArray) (h : InsAt w a m.L) (hn : m.L.length ≤ 4096) :
    Calls Try.prog 40 #[.agg #[.slice a m.L.length c, .bool m.lines], .string str] w (SmPost m a c str w) := by
  have HPN : Hid (∀ w', ¬ rightAll m.L → Below w.heap.size w w' → SmPost m a c str w (.returned (.pointer none)) w') := fun w' h1 h2 => .inl ⟨h1, rfl, h2⟩
  have HPY : Hid (∀ w' M, rightAll m.L → RchM w w' m M a c str 0 (.slice none 0 0) (.slice none 0 0) (fun _ => 0) (.slice none 0 0) [] (.slice none 0 0) [] w' → Below w.heap.size w w' → SmPost m a c str w (.returned (.pointer (some ⟨M, 0, none⟩))) w') := fun w' M h1 h2 h3 => .inr ⟨h1, M, rfl, h2, h3⟩
  generalize SmPost m a c str w = PP at *
  have HBX : Hid (Row (w.alloc (.cells #[.slice a m.L.length c, .bool m.lines] 59)) w.heap.size [.slice a m.L.length c, .bool m.lines] 59) := Row.at w [.slice a m.L.length c, .bool m.lines] _
  have HB0 : Hid (Below w.heap.size w (w.alloc (.cells #[.slice a m.L.length c, .bool m.lines] 59))) := Grow.alloc w _
  have HV := hid (Valid2_any (w.alloc (.cells #[.slice a m.L.length c, .bool m.lines] 59)) a c m.L m.lines (h.below HB0.out (Nat.le_refl _)) hn)
  have HSC := hid (simC_new a m.L.length c m.lines str)
  clear h
  go_enter Try.func40, Try.ntmps40
  go_upto_region 1 with fail
  generalize w.alloc (.cells #[.slice a m.L.length c, .bool m.lines] 59) = w1 at *
  have q : w1.cell? ⟨w.heap.size, 0, none⟩ = some (.slice a m.L.length c) ∧ w1.cell? ⟨w.heap.size, 1, none⟩ = some (.bool m.lines) := ⟨HBX.out.cell 0, HBX.out.cell 1⟩
  generalize w.heap.size = b0 at q HBX
  go_wp2_with fail
  refine HV.out.mono ?_
  rintro e w2 ⟨b, rfl, hb, hb2⟩
  have HB2 := hid (HB0.out.trans (hb2.mono HB0.out.size))
  cases b with
  | false =>
    have HNR : Hid (¬ rightAll m.L) := fun hr => by have := hb.2 hr; cases this
    clear hb hb2
    go_wp2_with fail
    all_goals (try go_ret)
    all_goals exact HPN.out _ HNR.out HB2.out
  | true =>
    have HR : Hid (rightAll m.L) := hb.1 rfl
    have HBX2 := HBX.out.below hb2 HBX.out.lt
    have q2 : w2.cell? ⟨b0, 0, none⟩ = some (.slice a m.L.length c) ∧ w2.cell? ⟨b0, 1, none⟩ = some (.bool m.lines) := ⟨HBX2.cell 0, HBX2.cell 1⟩
    clear hb hb2 q HBX2
    go_wp2_with fail
    all_goals (try go_ret)
    all_goals
      refine HPY.out _ w2.heap.size HR.out ⟨⟨_, ?_, HSC.out⟩, World.ownsRow_nil _ _ _ _, World.ownsRow_nil _ _ _ _, HB2.out.size, HB2.out.alloc HB2.out.size _, But.refl _ _, fun _ hg => .inl hg, fun _ hg => .inl hg⟩ (HB2.out.alloc HB2.out.size _)
      exact Row.new rfl
end Go.Proofs.Ythnpbopnpdlmnaa
