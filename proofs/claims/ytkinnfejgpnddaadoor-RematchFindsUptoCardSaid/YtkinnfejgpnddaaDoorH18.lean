/- The program of layer 9: a repetition. -/
import Derived.Test.YtkinnfejgpnddaaDoorH17
import Derived.Great.BuildSlice
import Derived.Test.YtkinnfejgpnddaaDoorH11
import Derived.Test.YtkinnfejgpnddaaDoorH01
namespace Go.Proofs.YtkinnfejgpnddaaDoor
open Go.RowKit
attribute [local go_sem] gives givesUpon

theorem wpList_store_new {P : Program} {ops : Array Oper} {rest : List Oper} {o : Oper} {a : Act} {v : World} {Q : Exit → Act → World → Prop} {T : TypeId} {old : Value} (hgd : o.guard = none) (ty : TypeId) (x y : Operand) (ho : o.op = .store ty x y)
    (g : Nat) (hg : g = v.heap.size) (new : Value) (hx : a.eval x = .pointer (some ⟨g, 0, none⟩)) (hy : a.eval y = new) (h1 : new.oneCell' = true) (hi : (P.info? ty).map (·.size) = some 1)
    (h : wpList P ops Q rest (a.put o.dst undef) (v.alloc (.cells #[new] T))) : wpList P ops Q (o :: rest) a (v.alloc (.cells #[old] T)) := by
  subst hg
  subst hy
  have h9 : (v.alloc (.cells #[old] T)).heap[v.heap.size]? = some (.cells #[old] T (0, 0)) := by show (v.heap.push _)[v.heap.size]? = _; simp
  refine wpList_store_one hgd ty x y ho v.heap.size hx h1 T old h9 hi ?_
  have : (v.alloc (.cells #[old] T)).setRow v.heap.size #[a.eval y] = v.alloc (.cells #[a.eval y] T) := by
    unfold World.setRow World.alloc
    congr 1
    apply Array.ext_getElem?
    intro i
    by_cases hi : i = v.heap.size
    · subst hi; rw [Array.getElem?_modify]; simp
    · simp [Array.getElem?_push, Array.getElem?_modify, hi, Ne.symm hi]
  rw [this]; exact h
/-- What a repetition leaves. -/
def RepP (N : Nat) (s : ByteArray) (w : World) (r : Option (List Sit × List Parse)) (e : Ending) (w' : World) : Prop :=
  Below w.heap.size w w' ∧ match r with
    | some st => ∃ a c, e = .returned (.slice a st.2.length c) ∧ PsQ (w.heap.size ≤ ·) w' (.slice a st.2.length c) st.2 ∧ StOk N s.size st
    | none => e = .panicked exh
set_option maxRecDepth 100000 in
set_option maxHeartbeats 16000000 in
theorem prepeated_any (wb : World) (N : Nat) (hN : N ≤ 9) (s : ByteArray) (hs : s.size ≤ 1000000) (lines : Bool) (p : Pay) (x0 : Re) (bb o cap : Nat) (hop : p.op = 5) (HX0 : PPar wb N s lines x0) (hIn : (Re.mk p [x0]).In wb [.int .i64 p.op, .int .u64 p.set.a, .int .u64 p.set.b, .int .u64 p.set.c, .int .u64 p.set.d, .int .i64 p.lo, .int .i64 p.hi, .int .i64 p.gr, .slice (some ⟨bb, o, none⟩) 1 cap]) (hok : (Re.mk p [x0]).ok N) (hsz : (Re.mk p [x0]).size ≤ 20) (hlo : 0 ≤ p.lo ∧ p.lo ≤ 1000) (hhi : -1 ≤ p.hi ∧ p.hi ≤ 1000) (ht : Tabs9 wb)
    (w : World) (M : Nat) (sa : Option Addr) (sc : Nat) (sp : Spans) (i : Nat) (hbw : Below wb.heap.size wb w) (hM : Row w M [.string s, .bool lines] 66) (hsp : SpQ w (.slice sa sp.length sc) sp) (hspo : SpOk N s.size sp) (hi : i ≤ s.size) :
    Calls Tryd.prog 68 #[.pointer (some ⟨M, 0, none⟩), .agg #[.int .i64 p.op, .int .u64 p.set.a, .int .u64 p.set.b, .int .u64 p.set.c, .int .u64 p.set.d, .int .i64 p.lo, .int .i64 p.hi, .int .i64 p.gr, .slice (some ⟨bb, o, none⟩) 1 cap], .int .i64 i, .slice sa sp.length sc] w (RepP N s w (visit p (withinAll [x0]) (firstP s.data.toList lines [x0]) 4097 (0, i, sp) ([], []))) := by
  have hmm := @run_makeMap Tryd.prog
  have hw6 : ((((((w.alloc (.cells #[.pointer (some ⟨M, 0, none⟩)] 64)).alloc (.cells #[.int .i64 p.op, .int .u64 p.set.a, .int .u64 p.set.b, .int .u64 p.set.c, .int .u64 p.set.d, .int .i64 p.lo, .int .i64 p.hi, .int .i64 p.gr, .slice (some ⟨bb, o, none⟩) 1 cap] 28)).alloc (.cells #[.slice none 0 0] 33)).alloc (.map #[] 0)).alloc (.cells #[.map (some (w.heap.size + 1 + 1 + 1))] 113)).alloc (.cells #[(.func (.func 76) #[] #[.pointer (some ⟨w.heap.size + 1, 0, none⟩), .pointer (some ⟨w.heap.size + 1 + 1 + 1 + 1, 0, none⟩), .pointer (some ⟨w.heap.size, 0, none⟩), .pointer (some ⟨w.heap.size + 1 + 1 + 1 + 1 + 1, 0, none⟩), .pointer (some ⟨w.heap.size + 1 + 1, 0, none⟩)])] 114)).heap.size = w.heap.size + 6 := by simp
  have hB7 : Below w.heap.size w ((((((w.alloc (.cells #[.pointer (some ⟨M, 0, none⟩)] 64)).alloc (.cells #[.int .i64 p.op, .int .u64 p.set.a, .int .u64 p.set.b, .int .u64 p.set.c, .int .u64 p.set.d, .int .i64 p.lo, .int .i64 p.hi, .int .i64 p.gr, .slice (some ⟨bb, o, none⟩) 1 cap] 28)).alloc (.cells #[.slice none 0 0] 33)).alloc (.map #[] 0)).alloc (.cells #[.map (some (w.heap.size + 1 + 1 + 1))] 113)).alloc (.cells #[(.func (.func 76) #[] #[.pointer (some ⟨w.heap.size + 1, 0, none⟩), .pointer (some ⟨w.heap.size + 1 + 1 + 1 + 1, 0, none⟩), .pointer (some ⟨w.heap.size, 0, none⟩), .pointer (some ⟨w.heap.size + 1 + 1 + 1 + 1 + 1, 0, none⟩), .pointer (some ⟨w.heap.size + 1 + 1, 0, none⟩)])] 114)) := ((((((Below.refl _ _).alloc (Nat.le_refl _) _).alloc (by simp) _).alloc (by simp; omega) _).alloc (by simp; omega) _).alloc (by simp; omega) _).alloc (by simp; omega) _
  have hR : RpAt s lines [.int .i64 p.op, .int .u64 p.set.a, .int .u64 p.set.b, .int .u64 p.set.c, .int .u64 p.set.d, .int .i64 p.lo, .int .i64 p.hi, .int .i64 p.gr, .slice (some ⟨bb, o, none⟩) 1 cap] M (w.heap.size + 1) (w.heap.size + 1 + 1 + 1 + 1) w.heap.size (w.heap.size + 1 + 1 + 1 + 1 + 1) (w.heap.size + 1 + 1) (w.heap.size + 1 + 1 + 1) (.slice none 0 0) [] [] ((((((w.alloc (.cells #[.pointer (some ⟨M, 0, none⟩)] 64)).alloc (.cells #[.int .i64 p.op, .int .u64 p.set.a, .int .u64 p.set.b, .int .u64 p.set.c, .int .u64 p.set.d, .int .i64 p.lo, .int .i64 p.hi, .int .i64 p.gr, .slice (some ⟨bb, o, none⟩) 1 cap] 28)).alloc (.cells #[.slice none 0 0] 33)).alloc (.map #[] 0)).alloc (.cells #[.map (some (w.heap.size + 1 + 1 + 1))] 113)).alloc (.cells #[(.func (.func 76) #[] #[.pointer (some ⟨w.heap.size + 1, 0, none⟩), .pointer (some ⟨w.heap.size + 1 + 1 + 1 + 1, 0, none⟩), .pointer (some ⟨w.heap.size, 0, none⟩), .pointer (some ⟨w.heap.size + 1 + 1 + 1 + 1 + 1, 0, none⟩), .pointer (some ⟨w.heap.size + 1 + 1, 0, none⟩)])] 114)) := by
    refine ⟨⟨hM.below hB7 hM.lt, ((((Row.new (by simp)).alloc _).alloc _).alloc _).alloc _, (((((Row.new rfl).alloc _).alloc _).alloc _).alloc _).alloc _, (Row.new (by simp)).alloc _, Row.new (by simp)⟩, ?_, ((((Row.new (by simp)).alloc _).alloc _).alloc _), OwnP.nil _ _⟩
    have h1 := KSet.new (enc := encS) (w := (((w.alloc (.cells #[.pointer (some ⟨M, 0, none⟩)] 64)).alloc (.cells #[.int .i64 p.op, .int .u64 p.set.a, .int .u64 p.set.b, .int .u64 p.set.c, .int .u64 p.set.d, .int .i64 p.lo, .int .i64 p.hi, .int .i64 p.gr, .slice (some ⟨bb, o, none⟩) 1 cap] 28)).alloc (.cells #[.slice none 0 0] 33))) (M := w.heap.size + 1 + 1 + 1) (by simp)
    exact (h1.below ((Below.refl _ _).alloc (Nat.le_refl _) _)).below ((Below.refl _ _).alloc (Nat.le_refl _) _)
  have hws : wb.heap.size ≤ w.heap.size := hbw.size
  obtain ⟨r, hr⟩ : ∃ r, r = visit p (withinAll [x0]) (firstP s.data.toList lines [x0]) 4097 (0, i, sp) ([], []) := ⟨_, rfl⟩
  have hic := pvisit_any wb N hN s hs lines p x0 bb o cap hop HX0 hIn hok hsz hlo hhi ht M (w.heap.size + 1) (w.heap.size + 1 + 1 + 1 + 1) w.heap.size (w.heap.size + 1 + 1 + 1 + 1 + 1) (w.heap.size + 1 + 1) (w.heap.size + 1 + 1 + 1) ⟨by omega, by omega⟩ 4097 ((((((w.alloc (.cells #[.pointer (some ⟨M, 0, none⟩)] 64)).alloc (.cells #[.int .i64 p.op, .int .u64 p.set.a, .int .u64 p.set.b, .int .u64 p.set.c, .int .u64 p.set.d, .int .i64 p.lo, .int .i64 p.hi, .int .i64 p.gr, .slice (some ⟨bb, o, none⟩) 1 cap] 28)).alloc (.cells #[.slice none 0 0] 33)).alloc (.map #[] 0)).alloc (.cells #[.map (some (w.heap.size + 1 + 1 + 1))] 113)).alloc (.cells #[(.func (.func 76) #[] #[.pointer (some ⟨w.heap.size + 1, 0, none⟩), .pointer (some ⟨w.heap.size + 1 + 1 + 1 + 1, 0, none⟩), .pointer (some ⟨w.heap.size, 0, none⟩), .pointer (some ⟨w.heap.size + 1 + 1 + 1 + 1 + 1, 0, none⟩), .pointer (some ⟨w.heap.size + 1 + 1, 0, none⟩)])] 114)) (.slice none 0 0) [] [] 0 i sa sc sp hR (hbw.trans (hB7.mono hws)) ⟨fun _ h => (by cases h), by simp, by simp, fun _ h => (by cases h)⟩ (hsp.of fun _ _ hr => hr.below hB7 hr.lt) hspo hi (by omega) (by simp)
  rw [← hr] at hic ⊢
  have HIC := hid hic
  have HR := hid (⟨hR, hB7⟩ : _ ∧ _)
  clear hic hR hB7 hop HX0 hIn hok hsz hM hsp hr ht hw6
  go_enter Tryd.func68, Tryd.ntmps68
  go_wp2_with (with_reducible (refine wpList_store_new rfl 114 _ _ rfl (w.heap.size + 1 + 1 + 1 + 1 + 1) ?hsz (.func (.func 76) #[] #[.pointer (some ⟨w.heap.size + 1, 0, none⟩), .pointer (some ⟨w.heap.size + 1 + 1 + 1 + 1, 0, none⟩), .pointer (some ⟨w.heap.size, 0, none⟩), .pointer (some ⟨w.heap.size + 1 + 1 + 1 + 1 + 1, 0, none⟩), .pointer (some ⟨w.heap.size + 1 + 1, 0, none⟩)]) rfl rfl rfl ?hi ?_))
  case hsz => simp
  case hi => kernel_rfl
  refine HIC.out.mono ?_
  rintro e z ⟨ov', hfr, hst⟩
  have HB := hid (HR.out.2.trans (HR.out.1.low hfr (n := w.heap.size) (by omega) (by omega)))
  clear hfr HIC
  cases r with
  | none =>
    subst hst
    exact And.intro rfl ⟨HB.out, rfl⟩
  | some st =>
    obtain ⟨rfl, hp⟩ := hst
    obtain ⟨oa, oc, rfl⟩ := hp.1.2.2.2.form
    have q0 := hp.1.2.2.1.cell 0
    have HP := hid hp
    clear hp
    go_wp2_with fail
    go_ret
    exact ⟨HB.out, oa, oc, rfl, HP.out.1.2.2.2.psq.mono (fun b _ hb => by have := hb.1; omega), HP.out.2.1⟩
end Go.Proofs.YtkinnfejgpnddaaDoor

/- The fields that a node may have, as the program asks. -/
namespace Go.Proofs.YtkinnfejgpnddaaDoor
open Go.RowKit
attribute [local go_sem] gives givesUpon

set_option maxRecDepth 100000 in
set_option maxHeartbeats 4000000 in
theorem shaped_any (p : Pay) (ad : Option Addr) (n cap : Nat) (w : World) (hn : n ≤ maxLen) (_hop : I64 p.op) :
    Calls Tryd.prog 72 #[.agg #[.int .i64 p.op, .int .u64 p.set.a, .int .u64 p.set.b, .int .u64 p.set.c, .int .u64 p.set.d, .int .i64 p.lo, .int .i64 p.hi, .int .i64 p.gr, .slice ad n cap]] w fun e w' => e = .returned (.bool (p.shaped n)) ∧ Below w.heap.size w w' := by
  unfold maxLen at hn
  have heq := eq_none p
  have hd : ∃ b, p.shaped n = b := ⟨_, rfl⟩
  obtain ⟨b, hb⟩ := hd
  rw [hb]
  unfold Pay.shaped at hb
  generalize hz : decide (p.set = Cs.none) = z at heq hb
  have HB := hid hb
  clear hb hz
  have HC : ∀ x, Below (w.heap.size + 2) ((w.alloc (.cells #[.int .i64 p.op, .int .u64 p.set.a, .int .u64 p.set.b, .int .u64 p.set.c, .int .u64 p.set.d, .int .i64 p.lo, .int .i64 p.hi, .int .i64 p.gr, .slice ad n cap] 28)).alloc (.cells #[.int .u64 0, .int .u64 0, .int .u64 0, .int .u64 0] 25)).drew x →
      (x.cell? ⟨w.heap.size, 0, none⟩ = some (.int .i64 p.op) ∧ x.cell? ⟨w.heap.size, 1, none⟩ = some (.int .u64 p.set.a) ∧ x.cell? ⟨w.heap.size, 2, none⟩ = some (.int .u64 p.set.b) ∧ x.cell? ⟨w.heap.size, 3, none⟩ = some (.int .u64 p.set.c) ∧ x.cell? ⟨w.heap.size, 4, none⟩ = some (.int .u64 p.set.d) ∧ x.cell? ⟨w.heap.size, 5, none⟩ = some (.int .i64 p.lo) ∧
        x.cell? ⟨w.heap.size, 6, none⟩ = some (.int .i64 p.hi) ∧ x.cell? ⟨w.heap.size, 7, none⟩ = some (.int .i64 p.gr) ∧ x.cell? ⟨w.heap.size, 8, none⟩ = some (.slice ad n cap)) ∧
      (x.cell? ⟨w.heap.size + 1, 0, none⟩ = some (.int .u64 0) ∧ x.cell? ⟨w.heap.size + 1, 1, none⟩ = some (.int .u64 0) ∧ x.cell? ⟨w.heap.size + 1, 2, none⟩ = some (.int .u64 0) ∧ x.cell? ⟨w.heap.size + 1, 3, none⟩ = some (.int .u64 0)) := fun x hx =>
    ⟨(((Row.new (cs := [_, _, _, _, _, _, _, _, _]) rfl).alloc _).drew.below hx (by omega)).c9.1, ((Row.new (cs := [_, _, _, _]) (by simp)).drew.below hx (by omega)).c4.1⟩
  have HC' := hid HC
  clear HC
  have hlo2 : (p.lo == 0) = true ∨ (p.lo == 0) = false := by cases (p.lo == 0) <;> simp
  rcases hlo2 with dlo | dlo
  · go_enter Tryd.func72, Tryd.ntmps72
    go_wp2_with fail
    refine wp_region_inv 18 (Below (w.heap.size + 2)) (by kernel_rfl) (by kernel_rfl) (Below.refl _) (fun _ _ _ => Below.trans) ?_
    simp only [fill, dstOf, Act.put, List.take_succ_cons, List.take_zero, List.getElem?_toArray, List.getElem?_cons_zero, List.getElem?_cons_succ, Option.bind_some, List.setIfInBounds_toArray, List.set_cons_zero, List.set_cons_succ]
    refine Plan.det 1 rfl (Below.refl _) ?_
    apply Exists.intro
    refine ⟨fun vs x hR hF K hK => ?_, ?_⟩
    · clear hF
      go_simp
      exact hK _ _ (Below.refl _ _) rfl
    refine Plan.det 2 rfl (Below.refl _) ?_
    apply Exists.intro
    refine ⟨fun vs x hR hF K hK => ?_, ?_⟩
    · have f0 := hF 0 _ _ rfl rfl; have hc := HC'.out x hR; clear hF
      go_simp
      exact hK _ _ (Below.refl _ _) rfl
    refine Plan.det 3 rfl (Below.refl _) ?_
    apply Exists.intro
    refine ⟨fun vs x hR hF K hK => ?_, ?_⟩
    · have f1 := hF 0 _ _ rfl rfl; clear hF
      go_simp
      exact hK _ _ (Below.refl _ _) rfl
    refine Plan.det 4 rfl (Below.refl _) ?_
    apply Exists.intro
    refine ⟨fun vs x hR hF K hK => ?_, ?_⟩
    · have f2 := hF 0 _ _ rfl rfl; clear hF
      go_simp
      exact hK _ _ (Below.refl _ _) rfl
    refine Plan.det 5 rfl (Below.refl _) ?_
    apply Exists.intro
    refine ⟨fun vs x hR hF K hK => ?_, ?_⟩
    · have f3 := hF 0 _ _ rfl rfl; clear hF
      go_simp
      exact hK _ _ (Below.refl _ _) rfl
    refine Plan.det 6 rfl (Below.refl _) ?_
    apply Exists.intro
    refine ⟨fun vs x hR hF K hK => ?_, ?_⟩
    · have f3 := hF 1 _ _ rfl rfl; have f4 := hF 0 _ _ rfl rfl; have hc := HC'.out x hR; clear hF
      go_simp
      exact hK _ _ (Below.refl _ _) rfl
    refine Plan.det 7 rfl (Below.refl _) ?_
    apply Exists.intro
    refine ⟨fun vs x hR hF K hK => ?_, ?_⟩
    · have f3 := hF 2 _ _ rfl rfl; have f5 := hF 0 _ _ rfl rfl; clear hF
      go_simp
      exact hK _ _ (Below.refl _ _) rfl
    refine Plan.det 8 rfl (Below.refl _) ?_
    apply Exists.intro
    refine ⟨fun vs x hR hF K hK => ?_, ?_⟩
    · have f3 := hF 3 _ _ rfl rfl; have f6 := hF 0 _ _ rfl rfl; clear hF
      go_simp
      exact hK _ _ (Below.refl _ _) rfl
    refine Plan.det 9 rfl (Below.refl _) ?_
    apply Exists.intro
    refine ⟨fun vs x hR hF K hK => ?_, ?_⟩
    · clear hF
      go_simp
      exact hK _ _ (Below.refl _ _) rfl
    refine Plan.det 10 rfl (Below.refl _) ?_
    apply Exists.intro
    refine ⟨fun vs x hR hF K hK => ?_, ?_⟩
    · have f8 := hF 0 _ _ rfl rfl; have hc := HC'.out x hR; clear hF
      go_simp
      exact hK _ _ (Below.refl _ _) rfl
    refine Plan.det 11 rfl (Below.refl _) ?_
    apply Exists.intro
    refine ⟨fun vs x hR hF K hK => ?_, ?_⟩
    · have f9 := hF 0 _ _ rfl rfl; clear hF
      go_simp
      exact hK _ _ (Below.refl _ _) rfl
    refine Plan.det 12 rfl (Below.refl _) ?_
    apply Exists.intro
    refine ⟨fun vs x hR hF K hK => ?_, ?_⟩
    · clear hF
      go_simp
      exact hK _ _ (Below.refl _ _) rfl
    refine Plan.det 13 rfl (Below.refl _) ?_
    apply Exists.intro
    refine ⟨fun vs x hR hF K hK => ?_, ?_⟩
    · have f11 := hF 0 _ _ rfl rfl; have hc := HC'.out x hR; clear hF
      go_simp
      exact hK _ _ (Below.refl _ _) rfl
    refine Plan.det 14 rfl (Below.refl _) ?_
    apply Exists.intro
    refine ⟨fun vs x hR hF K hK => ?_, ?_⟩
    · have hc := HC'.out x hR; clear hF
      go_simp
      exact hK _ _ (Below.refl _ _) rfl
    refine Plan.det 15 rfl (Below.refl _) ?_
    apply Exists.intro
    refine ⟨fun vs x hR hF K hK => ?_, ?_⟩
    · have f12 := hF 1 _ _ rfl rfl; have f13 := hF 0 _ _ rfl rfl; clear hF
      go_simp
      exact hK _ _ (Below.refl _ _) rfl
    refine Plan.det 16 rfl (Below.refl _) ?_
    apply Exists.intro
    refine ⟨fun vs x hR hF K hK => ?_, ?_⟩
    · have f0 := hF 14 _ _ rfl rfl; have f1 := hF 13 _ _ rfl rfl; have f2 := hF 12 _ _ rfl rfl; have f3 := hF 11 _ _ rfl rfl; have f4 := hF 10 _ _ rfl rfl; have f5 := hF 9 _ _ rfl rfl; have f6 := hF 8 _ _ rfl rfl; have f7 := hF 7 _ _ rfl rfl; clear hF
      go_simp
      exact hK _ _ (Below.refl _ _) rfl
    refine Plan.det 17 rfl (Below.refl _) ?_
    apply Exists.intro
    refine ⟨fun vs x hR hF K hK => ?_, ?_⟩
    · have f0 := hF 15 _ _ rfl rfl; have f1 := hF 14 _ _ rfl rfl; have f2 := hF 13 _ _ rfl rfl; have f3 := hF 12 _ _ rfl rfl; have f4 := hF 11 _ _ rfl rfl; have f5 := hF 10 _ _ rfl rfl; have f6 := hF 9 _ _ rfl rfl; have f7 := hF 8 _ _ rfl rfl; have f8 := hF 7 _ _ rfl rfl; have f9 := hF 6 _ _ rfl rfl; have f10 := hF 5 _ _ rfl rfl; have f15 := hF 0 _ _ rfl rfl; clear hF
      go_simp
      exact hK _ _ (Below.refl _ _) rfl
    refine Plan.det 18 rfl (Below.refl _) ?_
    apply Exists.intro
    refine ⟨fun vs x hR hF K hK => ?_, ?_⟩
    · have f0 := hF 16 _ _ rfl rfl; have f1 := hF 15 _ _ rfl rfl; have f2 := hF 14 _ _ rfl rfl; have f3 := hF 13 _ _ rfl rfl; have f4 := hF 12 _ _ rfl rfl; have f5 := hF 11 _ _ rfl rfl; have f6 := hF 10 _ _ rfl rfl; have f7 := hF 9 _ _ rfl rfl; have f8 := hF 8 _ _ rfl rfl; have f9 := hF 7 _ _ rfl rfl; have f10 := hF 6 _ _ rfl rfl; have f11 := hF 5 _ _ rfl rfl; have f12 := hF 4 _ _ rfl rfl; have f13 := hF 3 _ _ rfl rfl; have f14 := hF 2 _ _ rfl rfl; have f15 := hF 1 _ _ rfl rfl; have f16 := hF 0 _ _ rfl rfl; clear hF
      go_simp
      exact hK _ _ (Below.refl _ _) rfl
    refine Plan.nil (fun vs x hR hF => ?_)
    have f0 := hF 17 _ _ rfl; have f1 := hF 16 _ _ rfl; have f2 := hF 15 _ _ rfl; have f3 := hF 14 _ _ rfl; have f4 := hF 13 _ _ rfl; have f5 := hF 12 _ _ rfl; have f6 := hF 11 _ _ rfl; have f7 := hF 10 _ _ rfl; have f8 := hF 9 _ _ rfl; have f9 := hF 8 _ _ rfl; have f10 := hF 7 _ _ rfl; have f11 := hF 6 _ _ rfl; have f12 := hF 5 _ _ rfl; have f13 := hF 4 _ _ rfl; have f14 := hF 3 _ _ rfl; have f15 := hF 2 _ _ rfl; have f16 := hF 1 _ _ rfl; have f17 := hF 0 _ _ rfl
    clear hF
    simp only [f0, f1, f2, f3, f4, f5, f6, f7, f8, f9, f10, f11, f12, f13, f14, f15, f16, f17]
    clear f0 f1 f2 f3 f4 f5 f6 f7 f8 f9 f10 f11 f12 f13 f14 f15 f16 f17
    simp only [List.drop_succ_cons, List.drop_zero]
    have hz : w.heap.size + 1 < x.heap.size := by have := hR.size; simp at this; omega
    have hc := HC'.out x hR
    have hbw : Hid (Below w.heap.size w x) := (((Below.refl _ w).alloc (Nat.le_refl _) _).alloc (by simp) _).drew.trans (hR.mono (by omega))
    clear hR HC'
    rcases (show p.op = 1 ∨ p.op = 2 ∨ p.op = 3 ∨ p.op = 4 ∨ p.op = 5 ∨ p.op = 6 ∨ p.op = 7 ∨ p.op = 8 ∨ p.op = 9 ∨ ¬ (1 ≤ p.op ∧ p.op ≤ 9) by omega) with h | h | h | h | h | h | h | h | h | h
    all_goals
      go_wp2
      all_goals
        go_ret
        refine ⟨ret_bool ?_, hbw.out⟩
        have hb := HB.out
        clear HB heq
        rw [Bool.eq_iff_iff, ← hb]
        clear hb
        first | (simp_all; done) | (simp_all; omega)
  · go_enter Tryd.func72, Tryd.ntmps72
    go_wp2_with fail
    refine wp_region_inv 18 (Below (w.heap.size + 2)) (by kernel_rfl) (by kernel_rfl) (Below.refl _) (fun _ _ _ => Below.trans) ?_
    simp only [fill, dstOf, Act.put, List.take_succ_cons, List.take_zero, List.getElem?_toArray, List.getElem?_cons_zero, List.getElem?_cons_succ, Option.bind_some, List.setIfInBounds_toArray, List.set_cons_zero, List.set_cons_succ]
    refine Plan.det 1 rfl (Below.refl _) ?_
    apply Exists.intro
    refine ⟨fun vs x hR hF K hK => ?_, ?_⟩
    · clear hF
      go_simp
      exact hK _ _ (Below.refl _ _) rfl
    refine Plan.det 2 rfl (Below.refl _) ?_
    apply Exists.intro
    refine ⟨fun vs x hR hF K hK => ?_, ?_⟩
    · have f0 := hF 0 _ _ rfl rfl; have hc := HC'.out x hR; clear hF
      go_simp
      exact hK _ _ (Below.refl _ _) rfl
    refine Plan.det 3 rfl (Below.refl _) ?_
    apply Exists.intro
    refine ⟨fun vs x hR hF K hK => ?_, ?_⟩
    · have f1 := hF 0 _ _ rfl rfl; clear hF
      go_simp
      exact hK _ _ (Below.refl _ _) rfl
    refine Plan.det 4 rfl (Below.refl _) ?_
    apply Exists.intro
    refine ⟨fun vs x hR hF K hK => ?_, ?_⟩
    · have f2 := hF 0 _ _ rfl rfl; clear hF
      go_simp
      exact hK _ _ (Below.refl _ _) rfl
    refine Plan.det 5 rfl (Below.refl _) ?_
    apply Exists.intro
    refine ⟨fun vs x hR hF K hK => ?_, ?_⟩
    · have f3 := hF 0 _ _ rfl rfl; clear hF
      go_simp
      exact hK _ _ (Below.refl _ _) rfl
    refine Plan.det 6 rfl (Below.refl _) ?_
    apply Exists.intro
    refine ⟨fun vs x hR hF K hK => ?_, ?_⟩
    · have f3 := hF 1 _ _ rfl rfl; have f4 := hF 0 _ _ rfl rfl; have hc := HC'.out x hR; clear hF
      go_simp
      exact hK _ _ (Below.refl _ _) rfl
    refine Plan.det 7 rfl (Below.refl _) ?_
    apply Exists.intro
    refine ⟨fun vs x hR hF K hK => ?_, ?_⟩
    · have f3 := hF 2 _ _ rfl rfl; have f5 := hF 0 _ _ rfl rfl; clear hF
      go_simp
      exact hK _ _ (Below.refl _ _) rfl
    refine Plan.det 8 rfl (Below.refl _) ?_
    apply Exists.intro
    refine ⟨fun vs x hR hF K hK => ?_, ?_⟩
    · have f3 := hF 3 _ _ rfl rfl; have f6 := hF 0 _ _ rfl rfl; clear hF
      go_simp
      exact hK _ _ (Below.refl _ _) rfl
    refine Plan.det 9 rfl (Below.refl _) ?_
    apply Exists.intro
    refine ⟨fun vs x hR hF K hK => ?_, ?_⟩
    · clear hF
      go_simp
      exact hK _ _ (Below.refl _ _) rfl
    refine Plan.det 10 rfl (Below.refl _) ?_
    apply Exists.intro
    refine ⟨fun vs x hR hF K hK => ?_, ?_⟩
    · have f8 := hF 0 _ _ rfl rfl; have hc := HC'.out x hR; clear hF
      go_simp
      exact hK _ _ (Below.refl _ _) rfl
    refine Plan.det 11 rfl (Below.refl _) ?_
    apply Exists.intro
    refine ⟨fun vs x hR hF K hK => ?_, ?_⟩
    · have f9 := hF 0 _ _ rfl rfl; clear hF
      go_simp
      exact hK _ _ (Below.refl _ _) rfl
    refine Plan.det 12 rfl (Below.refl _) ?_
    apply Exists.intro
    refine ⟨fun vs x hR hF K hK => ?_, ?_⟩
    · clear hF
      go_simp
      exact hK _ _ (Below.refl _ _) rfl
    refine Plan.det 13 rfl (Below.refl _) ?_
    apply Exists.intro
    refine ⟨fun vs x hR hF K hK => ?_, ?_⟩
    · have f11 := hF 0 _ _ rfl rfl; have hc := HC'.out x hR; clear hF
      go_simp
      exact hK _ _ (Below.refl _ _) rfl
    refine Plan.det 14 rfl (Below.refl _) ?_
    apply Exists.intro
    refine ⟨fun vs x hR hF K hK => ?_, ?_⟩
    · have hc := HC'.out x hR; clear hF
      go_simp
      exact hK _ _ (Below.refl _ _) rfl
    refine Plan.det 15 rfl (Below.refl _) ?_
    apply Exists.intro
    refine ⟨fun vs x hR hF K hK => ?_, ?_⟩
    · have f12 := hF 1 _ _ rfl rfl; have f13 := hF 0 _ _ rfl rfl; clear hF
      go_simp
      exact hK _ _ (Below.refl _ _) rfl
    refine Plan.det 16 rfl (Below.refl _) ?_
    apply Exists.intro
    refine ⟨fun vs x hR hF K hK => ?_, ?_⟩
    · have f0 := hF 14 _ _ rfl rfl; have f1 := hF 13 _ _ rfl rfl; have f2 := hF 12 _ _ rfl rfl; have f3 := hF 11 _ _ rfl rfl; have f4 := hF 10 _ _ rfl rfl; have f5 := hF 9 _ _ rfl rfl; have f6 := hF 8 _ _ rfl rfl; have f7 := hF 7 _ _ rfl rfl; clear hF
      go_simp
      exact hK _ _ (Below.refl _ _) rfl
    refine Plan.det 17 rfl (Below.refl _) ?_
    apply Exists.intro
    refine ⟨fun vs x hR hF K hK => ?_, ?_⟩
    · have f0 := hF 15 _ _ rfl rfl; have f1 := hF 14 _ _ rfl rfl; have f2 := hF 13 _ _ rfl rfl; have f3 := hF 12 _ _ rfl rfl; have f4 := hF 11 _ _ rfl rfl; have f5 := hF 10 _ _ rfl rfl; have f6 := hF 9 _ _ rfl rfl; have f7 := hF 8 _ _ rfl rfl; have f8 := hF 7 _ _ rfl rfl; have f9 := hF 6 _ _ rfl rfl; have f10 := hF 5 _ _ rfl rfl; have f15 := hF 0 _ _ rfl rfl; clear hF
      go_simp
      exact hK _ _ (Below.refl _ _) rfl
    refine Plan.det 18 rfl (Below.refl _) ?_
    apply Exists.intro
    refine ⟨fun vs x hR hF K hK => ?_, ?_⟩
    · have f0 := hF 16 _ _ rfl rfl; have f1 := hF 15 _ _ rfl rfl; have f2 := hF 14 _ _ rfl rfl; have f3 := hF 13 _ _ rfl rfl; have f4 := hF 12 _ _ rfl rfl; have f5 := hF 11 _ _ rfl rfl; have f6 := hF 10 _ _ rfl rfl; have f7 := hF 9 _ _ rfl rfl; have f8 := hF 8 _ _ rfl rfl; have f9 := hF 7 _ _ rfl rfl; have f10 := hF 6 _ _ rfl rfl; have f11 := hF 5 _ _ rfl rfl; have f12 := hF 4 _ _ rfl rfl; have f13 := hF 3 _ _ rfl rfl; have f14 := hF 2 _ _ rfl rfl; have f15 := hF 1 _ _ rfl rfl; have f16 := hF 0 _ _ rfl rfl; clear hF
      go_simp
      exact hK _ _ (Below.refl _ _) rfl
    refine Plan.nil (fun vs x hR hF => ?_)
    have f0 := hF 17 _ _ rfl; have f1 := hF 16 _ _ rfl; have f2 := hF 15 _ _ rfl; have f3 := hF 14 _ _ rfl; have f4 := hF 13 _ _ rfl; have f5 := hF 12 _ _ rfl; have f6 := hF 11 _ _ rfl; have f7 := hF 10 _ _ rfl; have f8 := hF 9 _ _ rfl; have f9 := hF 8 _ _ rfl; have f10 := hF 7 _ _ rfl; have f11 := hF 6 _ _ rfl; have f12 := hF 5 _ _ rfl; have f13 := hF 4 _ _ rfl; have f14 := hF 3 _ _ rfl; have f15 := hF 2 _ _ rfl; have f16 := hF 1 _ _ rfl; have f17 := hF 0 _ _ rfl
    clear hF
    simp only [f0, f1, f2, f3, f4, f5, f6, f7, f8, f9, f10, f11, f12, f13, f14, f15, f16, f17]
    clear f0 f1 f2 f3 f4 f5 f6 f7 f8 f9 f10 f11 f12 f13 f14 f15 f16 f17
    simp only [List.drop_succ_cons, List.drop_zero]
    have hz : w.heap.size + 1 < x.heap.size := by have := hR.size; simp at this; omega
    have hc := HC'.out x hR
    have hbw : Hid (Below w.heap.size w x) := (((Below.refl _ w).alloc (Nat.le_refl _) _).alloc (by simp) _).drew.trans (hR.mono (by omega))
    clear hR HC'
    rcases (show p.op = 1 ∨ p.op = 2 ∨ p.op = 3 ∨ p.op = 4 ∨ p.op = 5 ∨ p.op = 6 ∨ p.op = 7 ∨ p.op = 8 ∨ p.op = 9 ∨ ¬ (1 ≤ p.op ∧ p.op ≤ 9) by omega) with h | h | h | h | h | h | h | h | h | h
    all_goals
      go_wp2
      all_goals
        go_ret
        refine ⟨ret_bool ?_, hbw.out⟩
        have hb := HB.out
        clear HB heq
        rw [Bool.eq_iff_iff, ← hb]
        clear hb
        first | (simp_all; done) | (simp_all; omega)
end Go.Proofs.YtkinnfejgpnddaaDoor
