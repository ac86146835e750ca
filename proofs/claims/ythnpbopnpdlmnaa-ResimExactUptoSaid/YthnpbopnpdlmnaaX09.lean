/- The reference's list of instructions: frames, and what an append leaves. -/
import Derived.Test.YthnpbopnpdlmnaaX04
import Derived.Test.YthnpbopnpdlmnaaX08
namespace Go.Proofs.Ythnpbopnpdlmnaa
open Go.RowKit

mutual
theorem Re.csize_le : ∀ t : Re, t.csize + 2 ≤ 5 * t.size
  | .mk p xs => by
    have h1 := Re.csizes_le xs
    have h2 := Re.asize_le xs
    rw [Re.csize, Re.size_mk]
    by_cases o1 : p.op = 2 ∨ p.op = 7 ∨ p.op = 8
    · rw [if_pos o1]; omega
    rw [if_neg o1]
    by_cases o4 : p.op = 4
    · rw [if_pos o4]; omega
    rw [if_neg o4]
    by_cases o5 : p.op = 5
    · rw [if_pos o5]
      by_cases hl : p.lo = 1
      · rw [if_pos hl]; omega
      · rw [if_neg hl]; split <;> omega
    · rw [if_neg o5]; omega
theorem Re.csizes_le : ∀ xs : List Re, Re.csizes xs ≤ 5 * Re.sizes xs
  | [] => by simp [Re.csizes]
  | t :: ts => by
    have h1 := Re.csize_le t
    have h2 := Re.csizes_le ts
    have h3 : Re.sizes (t :: ts) = t.size + Re.sizes ts := rfl
    rw [Re.csizes, h3]; omega
theorem Re.asize_le : ∀ xs : List Re, Re.asize xs ≤ 5 * Re.sizes xs
  | [] => by simp [Re.asize]
  | t :: ts => by
    have h1 := Re.csize_le t
    have h2 := Re.asize_le ts
    have h3 : Re.sizes (t :: ts) = t.size + Re.sizes ts := rfl
    rw [Re.asize, h3]; split <;> omega
end
theorem Re.psize_le : ∀ xs : List Re, Re.psize xs ≤ 5 * Re.sizes xs
  | [] => by simp [Re.psize]
  | t :: ts => by
    have h1 := Re.csize_le t
    have h2 := Re.psize_le ts
    have h3 : Re.sizes (t :: ts) = t.size + Re.sizes ts := rfl
    rw [Re.psize, h3]; omega
theorem Re.jpos_lt : ∀ (xs : List Re) (n : Nat), ∀ j, j ∈ Re.jpos xs n → j < n + Re.psize xs
  | t :: ts, n, j, h => by
    rw [Re.psize]
    rcases List.mem_cons.1 h with rfl | h
    · omega
    · have := Re.jpos_lt ts _ j h; omega
def FrO (go : Option Nat) (w w' : World) : Prop := ∀ BB, FrB BB go w w'
theorem FrO.refl (go : Option Nat) (w : World) : FrO go w w := fun BB => FrB.refl BB go w
theorem FrO.trans {go go' : Option Nat} {a b c : World} (h : FrO go a b) (hg : GoTo a go go') (k : FrO go' b c) : FrO go a c := fun BB => (h BB).trans hg (k BB)
theorem FrO.of_below {go : Option Nat} {w w' : World} (h : Below w.heap.size w w') : FrO go w w' := fun _ => FrB.of_below h
theorem FrO.size {go : Option Nat} {w w' : World} (h : FrO go w w') : w.heap.size ≤ w'.heap.size := (h 0).size
theorem FrO.below {go : Option Nat} {n : Nat} {w w' : World} (h : FrO go w w') (hn : n ≤ w.heap.size) (h2 : ∀ g, go = some g → n ≤ g) : Below n w w' := (h n).below hn (Nat.le_refl _) h2
theorem FrO.set {w : World} {go : Option Nat} {g : Nat} (hg : go = some g) (i : Nat) (v : Value) : FrO go w (w.setCell ⟨g, i, none⟩ v) := fun BB => by rw [hg]; exact FrB.set i v
theorem OwnI.n {w : World} {base : Nat} {a : Option Addr} {n c : Nat} {L : List Inst} (h : OwnI w base (.slice a n c) L) : n = L.length := by
  obtain ⟨a', c', e⟩ := h.form
  injection e with e1 e2 e3
theorem OwnI.row {w : World} {base : Nat} {a : Option Addr} {n c : Nat} {L : List Inst} (h : OwnI w base (.slice a n c) L) : w.ownsRow base 87 7 (.slice a n c) n (L.flatMap Inst.cells) := by
  have e := h.n
  unfold OwnI at h
  rw [← e] at h
  exact h
theorem FrO.row {w w' : World} {base B : Nat} {v : Value} {L : List Inst} {cs : List Value} {T : TypeId} (h : FrO v.ownBlock w w') (hO : OwnI w base v L) (hr : Row w B cs T) (hT : T ≠ 87) : Row w' B cs T := by
  refine ((h (B + 1)).block B hr.lt (by omega) (fun e => ?_)).trans hr
  rcases hO.2 with ⟨e1, _⟩ | ⟨g2, cap2, cur2, e1, _, e2, _⟩
  · rw [e1] at e; simp [Value.ownBlock] at e
  · rw [e1] at e
    simp [Value.ownBlock] at e
    subst e
    have hr' : w.heap[g2]? = some (.cells cs.toArray T) := hr
    rw [e2] at hr'
    have e := Option.some.inj hr'
    injection e with e3 e4
    exact hT e4.symm
theorem OwnJ.fro {w w' : World} {base b2 : Nat} {v u : Value} {J : List Nat} {L : List Inst} (h : OwnJ w base v J) (hf : FrO u.ownBlock w w') (hO : OwnI w b2 u L) : OwnJ w' base v J := by
  refine ⟨h.1, ?_⟩
  have hlt := h.lt
  rcases h.2 with hn | ⟨g, cap, cur, e, hb1, hgg, rest⟩
  · exact .inl hn
  · have he : v.ownBlock = some g := by rw [e]; rfl
    exact .inr ⟨g, cap, cur, e, hb1, ((hf (g + 1)).block g (hlt g he).2 (by omega) (fun e2 => own_ne hO h g e2 he)).trans hgg, rest⟩
theorem OwnI.keptJ {w w' : World} {base b2 : Nat} {v u : Value} {J : List Nat} {L : List Inst} (h : OwnI w base v L) (hJ : OwnJ w b2 u J) (hg : w.grownBy w' u.ownBlock) : OwnI w' base v L := by
  refine World.ownsRow.kept h hg ?_
  cases hv : v.ownBlock with
  | none => exact .inl rfl
  | some g => exact .inr fun e => own_ne h hJ g hv e.symm
theorem OwnI.grew {w w' : World} {base : Nat} {a a' : Option Addr} {n c c' : Nat} {L : List Inst} {I : Inst} (h : OwnI w base (.slice a n c) L) (o : Obj) (hown : w'.ownsRow base 87 7 (.slice a' (n + 1) c') (n + 1) (L.flatMap Inst.cells ++ I.cells)) (hgrow : (w.alloc o).grownBy w' (Value.slice a n c).ownBlock)
    (hnw : ∀ g, (Value.slice a' (n + 1) c').ownBlock = some g → (Value.slice a n c).ownBlock = some g ∨ w.heap.size ≤ g) :
    ∃ LL, LL = L ++ [I] ∧ OwnI w' base (.slice a' (n + 1) c') LL ∧ GoTo w (Value.slice a n c).ownBlock (Value.slice a' (n + 1) c').ownBlock ∧ FrO (Value.slice a n c).ownBlock w w' := by
  have e := h.n
  have hO : OwnI w' base (.slice a' (n + 1) c') (L ++ [I]) := by
    unfold OwnI
    rw [List.length_append, List.flatMap_append, ← e]
    simpa using hown
  refine ⟨_, rfl, hO, ?_, fun BB => ?_⟩
  · have hpos : 0 < n + 1 := by omega
    obtain ⟨g, cap, hv, _, _⟩ := World.ownsRow.form hO (by simp)
    have hg : (Value.slice a' (n + 1) c').ownBlock = some g := by rw [hv]; rfl
    rcases hnw g hg with h1 | h1
    · exact .inl (by rw [hg, h1])
    · exact .inr ⟨g, hg, h1⟩
  · have hal := (Below.refl w.heap.size w).alloc (Nat.le_refl _) o
    exact ⟨hgrow.os.trans hal.os, hgrow.tape.trans hal.tape, hgrow.output.trans hal.output, Nat.le_trans hal.size hgrow.size, fun j hj _ h2 => (hgrow.block j (Nat.lt_of_lt_of_le hj hal.size) (fun e => h2 e.symm)).trans (hal.block j hj)⟩
def RPost (base : Nat) (v : Value) (_c : Nat) (G : Nat → List Inst) (L : List Inst) (w : World) (e : Ending) (w' : World) : Prop :=
  ∃ (a : Option Addr) (n cap : Nat) (LL : List Inst), e = .returned (.slice a n cap) ∧ LL = L ++ G L.length ∧ OwnI w' base (.slice a n cap) LL ∧ GoTo w v.ownBlock (Value.slice a n cap).ownBlock ∧ FrO v.ownBlock w w'
end Go.Proofs.Ythnpbopnpdlmnaa

/- The reference's rep. -/
namespace Go.Proofs.Ythnpbopnpdlmnaa
open Go.RowKit
attribute [local go_sem] gives givesUpon

theorem set_mid (A B : List Inst) (I J : Inst) : (A ++ (I :: B)).set A.length J = A ++ (J :: B) := by simp
set_option maxRecDepth 100000 in
set_option maxHeartbeats 8000000 in
theorem repR_any {wb : World} (base : Nat) (hwb : wb.heap.size ≤ base) (p : Pay) (ho : p.op = 5) (x0 : Re) (ad : Option Addr) (cap : Nat) (w : World) (v : Value) (L : List Inst) (hbw : Below wb.heap.size wb w) (hbase : base ≤ w.heap.size) (hO : OwnI w base v L) (hall : Re.AllIn wb [x0] ad 0) (hL : L.length + 5 * x0.size + 5 ≤ 1000000)
    (hcode : ∀ (w : World) (cs : List Value) (v : Value) (L : List Inst), x0.In wb cs → Below wb.heap.size wb w → base ≤ w.heap.size → OwnI w base v L → L.length + 5 * x0.size ≤ 1000000 → Calls Try.prog 39 #[v, .agg cs.toArray] w (RPost base v x0.csize x0.gen L w)) :
    Calls Try.prog 66 #[v, .agg #[.int .i64 p.op, .int .u64 p.set.a, .int .u64 p.set.b, .int .u64 p.set.c, .int .u64 p.set.d, .int .i64 p.lo, .int .i64 p.hi, .int .i64 p.gr, .slice ad 1 cap]] w (RPost base v (Re.mk p [x0]).csize (Re.mk p [x0]).gen L w) := by
  obtain ⟨a, c, rfl⟩ := hO.form
  have HOP := hid ho
  have HT := hid hcode
  have HBW := hid hbw
  have hal := (Below.refl w.heap.size w).alloc (Nat.le_refl _) (.cells #[.int .i64 p.op, .int .u64 p.set.a, .int .u64 p.set.b, .int .u64 p.set.c, .int .u64 p.set.d, .int .i64 p.lo, .int .i64 p.hi, .int .i64 p.gr, .slice ad 1 cap] 28)
  have HOA := hid (hO.alloc (.cells #[.int .i64 p.op, .int .u64 p.set.a, .int .u64 p.set.b, .int .u64 p.set.c, .int .u64 p.set.d, .int .i64 p.lo, .int .i64 p.hi, .int .i64 p.gr, .slice ad 1 cap] 28))
  have HO0 := hid hO
  have HBWA := hid (hbw.trans (hal.mono hbw.size))
  have HFA := hid (FrO.of_below (go := (Value.slice a L.length c).ownBlock) hal)
  have HOG : Hid (∀ g, (Value.slice a L.length c).ownBlock = some g → wb.heap.size ≤ g) := fun g hg => by have := (hO.lt g hg).1; omega
  have HRE := hid (Row.new (w := w) (B := w.heap.size) (cs := [.int .i64 p.op, .int .u64 p.set.a, .int .u64 p.set.b, .int .u64 p.set.c, .int .u64 p.set.d, .int .i64 p.lo, .int .i64 p.hi, .int .i64 p.gr, .slice ad 1 cap]) (T := 28) rfl)
  have HALL := hid hall
  have hcz := Re.csize_le x0
  have hgl := Re.gen_len x0
  have HGL := hid hgl
  clear ho hcode hal hall hbw hO hgl
  have q0 := HRE.out.c9
  rcases (show (p.lo == 1) = true ∨ (p.lo == 1) = false by cases (p.lo == 1) <;> simp) with dl | dl
  · obtain ⟨b, o, p', ad', n', cap', rfl, HC, HI0, hbb⟩ := HALL.out.kid HBWA.out 0 (by simp)
    have HC0 : Hid (CellsAt (w.alloc (.cells #[.int .i64 p.op, .int .u64 p.set.a, .int .u64 p.set.b, .int .u64 p.set.c, .int .u64 p.set.d, .int .i64 p.lo, .int .i64 p.hi, .int .i64 p.gr, .slice (some ⟨b, o, none⟩) 1 cap] 28)) b o [.int .i64 p'.op, .int .u64 p'.set.a, .int .u64 p'.set.b, .int .u64 p'.set.c, .int .u64 p'.set.d, .int .i64 p'.lo, .int .i64 p'.hi, .int .i64 p'.gr, .slice ad' n' cap']) := HC
    clear HC
    have HCG := hid (Re.rep1 p x0 HOP.out (by simpa using dl))
    have HTC := hid (HT.out _ _ _ L HI0.out HBWA.out (by simp; omega) HOA.out (by omega))
    go_enter Try.func66, Try.ntmps66
    go_wp2_with (first | (with_reducible (refine wpList_load_agg rfl 28 _ rfl b o rfl _ _ HC0.out Try.underlying28 rfl (size_re9 _ _ _ _ _ _ _ _ _) ?_)))
    refine HTC.out.mono ?_
    unfold RPost
    rintro e w1 ⟨a1, n1, c1, L1, rfl, hL1, ho1, hg1, hf1⟩
    have HL1 := hid hL1
    have hn1 : n1 = L.length + x0.csize := by have h := ho1.n; rw [hL1, List.length_append, HGL.out] at h; exact h
    have hb1 : n1 ≤ 999999 := by omega
    have hs1 : w.heap.size ≤ w1.heap.size := (HFA.out.trans (.inl rfl) hf1).size
    have HN1 := hid hn1
    have HO1 := hid ho1
    have HG1 : Hid (GoTo w (Value.slice a L.length c).ownBlock (Value.slice a1 n1 c1).ownBlock) := FrB.go0 hg1
    have HF1 : Hid (FrO (Value.slice a L.length c).ownBlock w w1) := HFA.out.trans (.inl rfl) hf1
    clear ho1 hg1 hf1 hn1 hL1 HTC HI0 HC0
    obtain ⟨i0, hi, hz0, hz1, hz2⟩ := info_parts info_inst
    go_wp2_with (at_builtin; refine wpList_append_row rfl _ _ 57 rfl base 87 i0 (.agg #[.int .i64 0, .int .u64 0, .int .u64 0, .int .u64 0, .int .u64 0, .int .i64 0, .int .i64 0]) 7 56 Try.underlying57 hi hz0 hz1 hz2 rfl (by decide) _ n1 ((L1).flatMap Inst.cells) rfl (by exact HO1.out.row.alloc _) ⟨w1.heap.size, 0, none⟩ 1 1 [.int .i64 2, .int .u64 0, .int .u64 0, .int .u64 0, .int .u64 0, .int .i64 (L.length : Nat), .int .i64 ((n1 : Nat) + 1)] rfl rfl ?c1 ?c2 ?c3 ?c4 ?c5 (by decide) ?_)
    case c1 =>
      intro j u hj
      rw [Addr.add_lit, Nat.zero_add]
      exact (Row.new (w := w1) (cs := [.int .i64 2, .int .u64 0, .int .u64 0, .int .u64 0, .int .u64 0, .int .i64 (L.length : Nat), .int .i64 ((n1 : Nat) + 1)]) (T := 87) rfl).cell j ▸ hj
    case c2 => intro u hu; simp at hu; rcases hu with rfl | rfl | rfl | rfl | rfl | rfl | rfl <;> rfl
    case c3 => unfold maxLen; omega
    case c4 => omega
    case c5 => simp; omega
    intro a2 c2 w2 hown hgrow hnw
    obtain ⟨L2, hL2, hQ2⟩ := (OwnI.grew (I := ⟨2, Cs.none, (L.length : Nat), (n1 : Nat) + 1⟩) HO1.out (.cells #[.int .i64 2, .int .u64 0, .int .u64 0, .int .u64 0, .int .u64 0, .int .i64 (L.length : Nat), .int .i64 ((n1 : Nat) + 1)] 87) hown hgrow (fun g hg => (hnw g hg).imp id fun h => (by (try simp at h) <;> (try simp) <;> omega)))
    have HL2 := hid hL2
    have HQ2 := hid hQ2
    clear hL2 hQ2
    clear hown hgrow hnw
    clear hi hz0 hz1 hz2
    clear i0
    go_wp2_with fail
    go_ret
    refine ⟨a2, n1 + 1, c2, L2, rfl, ?_, HQ2.out.1, HG1.out.trans HF1.out.size HQ2.out.2.1, HF1.out.trans HG1.out HQ2.out.2.2⟩
    rw [HL2.out, HL1.out, HCG.out.2, List.append_assoc]
    show L ++ (x0.gen L.length ++ [isplit (L.length : Nat) ((n1 : Nat) + 1)]) = _
    rw [HN1.out]
    rfl
  · go_enter Try.func66, Try.ntmps66
    obtain ⟨i0, hi, hz0, hz1, hz2⟩ := info_parts info_inst
    go_wp2_with (at_builtin; refine wpList_append_row rfl _ _ 57 rfl base 87 i0 (.agg #[.int .i64 0, .int .u64 0, .int .u64 0, .int .u64 0, .int .u64 0, .int .i64 0, .int .i64 0]) 7 56 Try.underlying57 hi hz0 hz1 hz2 rfl (by decide) _ L.length ((L).flatMap Inst.cells) rfl (by exact HOA.out.row.alloc _) ⟨w.heap.size + 1, 0, none⟩ 1 1 [.int .i64 2, .int .u64 0, .int .u64 0, .int .u64 0, .int .u64 0, .int .i64 ((L.length : Nat) + 1), .int .i64 0] rfl rfl ?c1 ?c2 ?c3 ?c4 ?c5 (by decide) ?_)
    case c1 =>
      intro j u hj
      rw [Addr.add_lit, Nat.zero_add]
      exact (Row.new (w := (w.alloc (.cells #[.int .i64 p.op, .int .u64 p.set.a, .int .u64 p.set.b, .int .u64 p.set.c, .int .u64 p.set.d, .int .i64 p.lo, .int .i64 p.hi, .int .i64 p.gr, .slice ad 1 cap] 28))) (cs := [.int .i64 2, .int .u64 0, .int .u64 0, .int .u64 0, .int .u64 0, .int .i64 ((L.length : Nat) + 1), .int .i64 0]) (T := 87) (B := w.heap.size + 1) (by simp)).cell j ▸ hj
    case c2 => intro u hu; simp at hu; rcases hu with rfl | rfl | rfl | rfl | rfl | rfl | rfl <;> rfl
    case c3 => unfold maxLen; omega
    case c4 => omega
    case c5 => simp; omega
    intro a1 c1 w1 hown hgrow hnw
    obtain ⟨L1, hL1, hQ1⟩ := (OwnI.grew (I := ⟨2, Cs.none, (L.length : Nat) + 1, 0⟩) HOA.out (.cells #[.int .i64 2, .int .u64 0, .int .u64 0, .int .u64 0, .int .u64 0, .int .i64 ((L.length : Nat) + 1), .int .i64 0] 87) hown hgrow (fun g hg => (hnw g hg).imp id fun h => (by (try simp at h) <;> (try simp) <;> omega)))
    have HL1 := hid hL1
    have HQ1 := hid hQ1
    clear hL1 hQ1
    clear hown hgrow hnw
    clear hi hz0 hz1 hz2
    clear i0
    have hw1 : w.heap.size ≤ w1.heap.size := (HFA.out.trans (.inl rfl) HQ1.out.2.2).size
    have HG1 : Hid (GoTo w (Value.slice a L.length c).ownBlock (Value.slice a1 (L.length + 1) c1).ownBlock) := FrB.go0 HQ1.out.2.1
    have HF1 : Hid (FrO (Value.slice a L.length c).ownBlock w w1) := HFA.out.trans (.inl rfl) HQ1.out.2.2
    have HBR1 : Hid (Below wb.heap.size wb w1) := HBW.out.trans (HF1.out.below HBW.out.size HOG.out)
    have HRE1 : Hid (Row w1 w.heap.size [.int .i64 p.op, .int .u64 p.set.a, .int .u64 p.set.b, .int .u64 p.set.c, .int .u64 p.set.d, .int .i64 p.lo, .int .i64 p.hi, .int .i64 p.gr, .slice ad 1 cap] 28) := HQ1.out.2.2.row HOA.out HRE.out (by decide)
    obtain ⟨b, o, p', ad', n', cap', rfl, HC, HI0, hbb⟩ := HALL.out.kid HBR1.out 0 (by simp)
    have HC0 : Hid (CellsAt w1 b o [.int .i64 p'.op, .int .u64 p'.set.a, .int .u64 p'.set.b, .int .u64 p'.set.c, .int .u64 p'.set.d, .int .i64 p'.lo, .int .i64 p'.hi, .int .i64 p'.gr, .slice ad' n' cap']) := HC
    clear HC q0
    have q0 := HRE1.out.c9
    have hl1 : L1.length = L.length + 1 := by rw [HL1.out, List.length_append]; rfl
    have HLL := hid hl1
    have HTC := hid (HT.out w1 _ _ L1 HI0.out HBR1.out (by omega) HQ1.out.1 (by omega))
    clear hl1
    go_wp2_with (first | (with_reducible (refine wpList_load_agg rfl 28 _ rfl b o rfl _ _ HC0.out Try.underlying28 rfl (size_re9 _ _ _ _ _ _ _ _ _) ?_)))
    refine HTC.out.mono ?_
    unfold RPost
    rintro e w2 ⟨a2, n2, c2, L2, rfl, hL2, ho2, hg2, hf2⟩
    have hn2 : n2 = L.length + 1 + x0.csize := by have h := ho2.n; rw [hL2, List.length_append, HGL.out, HLL.out] at h; exact h
    have HN2 := hid hn2
    have hw2 := hf2.size
    have hb2 : n2 ≤ 999999 := by omega
    have hb22 : L.length < n2 := by omega
    have hL2' : L2 = L ++ (⟨2, Cs.none, (L.length : Nat) + 1, 0⟩ :: x0.gen (L.length + 1)) := by rw [hL2, HLL.out, HL1.out]; simp
    have HL2 := hid hL2'
    have HO2 := hid ho2
    have HG2 : Hid (GoTo w (Value.slice a L.length c).ownBlock (Value.slice a2 n2 c2).ownBlock) := HG1.out.trans HF1.out.size hg2
    have HF2 : Hid (FrO (Value.slice a L.length c).ownBlock w w2) := HF1.out.trans HG1.out hf2
    have HRE2 : Hid (Row w2 w.heap.size _ 28) := hf2.row HQ1.out.1 HRE1.out (by decide)
    clear q0 hL2 hL2' ho2 hg2 hf2 hn2 HTC HC0 HI0 HRE HRE1 HQ1 HL1 HLL HG1 HF1
    have q0 := HRE2.out.c9
    rcases (show decide (p.hi < 0) = true ∨ decide (p.hi < 0) = false by cases decide (p.hi < 0) <;> simp) with dh | dh
    · have HCG := hid (Re.rep3 p x0 HOP.out (by simpa using dl) (by simpa using dh))
      obtain ⟨i0, hi, hz0, hz1, hz2⟩ := info_parts info_inst
      go_wp2_with (at_builtin; refine wpList_append_row rfl _ _ 57 rfl base 87 i0 (.agg #[.int .i64 0, .int .u64 0, .int .u64 0, .int .u64 0, .int .u64 0, .int .i64 0, .int .i64 0]) 7 56 Try.underlying57 hi hz0 hz1 hz2 rfl (by decide) _ n2 ((L2).flatMap Inst.cells) rfl (by exact HO2.out.row.alloc _) ⟨w2.heap.size, 0, none⟩ 1 1 [.int .i64 3, .int .u64 0, .int .u64 0, .int .u64 0, .int .u64 0, .int .i64 (L.length : Nat), .int .i64 0] rfl rfl ?c1 ?c2 ?c3 ?c4 ?c5 (by decide) ?_)
      case c1 =>
        intro j u hj
        rw [Addr.add_lit, Nat.zero_add]
        exact (Row.new (w := w2) (cs := [.int .i64 3, .int .u64 0, .int .u64 0, .int .u64 0, .int .u64 0, .int .i64 (L.length : Nat), .int .i64 0]) (T := 87) rfl).cell j ▸ hj
      case c2 => intro u hu; simp at hu; rcases hu with rfl | rfl | rfl | rfl | rfl | rfl | rfl <;> rfl
      case c3 => unfold maxLen; omega
      case c4 => omega
      case c5 => simp; omega
      intro a3 c3 w3 hown hgrow hnw
      obtain ⟨L3, hL3, hQ3⟩ := (OwnI.grew (I := ⟨3, Cs.none, (L.length : Nat), 0⟩) HO2.out (.cells #[.int .i64 3, .int .u64 0, .int .u64 0, .int .u64 0, .int .u64 0, .int .i64 (L.length : Nat), .int .i64 0] 87) hown hgrow (fun g hg => (hnw g hg).imp id fun h => (by (try simp at h) <;> (try simp) <;> omega)))
      have HL3 := hid hL3
      have HQ3 := hid hQ3
      clear hL3 hQ3
      clear hown hgrow hnw
      clear hi hz0 hz1 hz2
      clear i0
      have HG3 : Hid (GoTo w (Value.slice a L.length c).ownBlock (Value.slice a3 (n2 + 1) c3).ownBlock) := HG2.out.trans HF2.out.size HQ3.out.2.1
      have HF3 : Hid (FrO (Value.slice a L.length c).ownBlock w w3) := HF2.out.trans HG2.out HQ3.out.2.2
      have hk3 : L3[L.length]? = some ⟨2, Cs.none, (L.length : Nat) + 1, 0⟩ := by rw [HL3.out, HL2.out]; simp
      obtain ⟨-, g, rfl, k1, k2, k3, k4, k5, k6⟩ := (HQ3.out.1).elem L.length _ hk3
      have q2 := k3.c7i
      have q3 := k4 (L.length * 7 + 6)
      have HK := hid (k6 ((n2 : Nat) + 1))
      clear k1 k3 k4 k5 k6 hk3
      go_wp2_with fail
      go_ret
      refine ⟨some ⟨g, 0, none⟩, n2 + 1, c3, _, rfl, ?_, HK.out, HG3.out, HF3.out.trans HG3.out (FrO.set rfl _ _)⟩
      have HN := HN2.out
      rw [HL3.out, HL2.out, HCG.out.2]
      have e1 : ∀ J : Inst, (L ++ ((⟨2, Cs.none, (L.length : Nat) + 1, 0⟩ : Inst) :: x0.gen (L.length + 1)) ++ [(⟨3, Cs.none, (L.length : Nat), 0⟩ : Inst)]).set L.length J = L ++ (J :: (x0.gen (L.length + 1) ++ [(⟨3, Cs.none, (L.length : Nat), 0⟩ : Inst)])) := fun J => by
        rw [List.append_assoc, List.cons_append]; exact set_mid L _ _ J
      rw [e1]
      have e2 : (((n2 : Nat) : Int) + 1) = (L.length + 2 + x0.csize : Nat) := by omega
      rw [e2]
      rfl
    · have HCG := hid (Re.rep2 p x0 HOP.out (by simpa using dl) (by simpa using dh))
      have hk2 : L2[L.length]? = some ⟨2, Cs.none, (L.length : Nat) + 1, 0⟩ := by rw [HL2.out]; simp
      obtain ⟨-, g, rfl, k1, k2, k3, k4, k5, k6⟩ := (HO2.out).elem L.length _ hk2
      have q2 := k3.c7i
      have q3 := k4 (L.length * 7 + 6)
      have HK := hid (k6 (n2 : Nat))
      clear k1 k3 k4 k5 k6 hk2
      go_wp2_with fail
      go_ret
      refine ⟨some ⟨g, 0, none⟩, n2, c2, _, rfl, ?_, HK.out, HG2.out, HF2.out.trans HG2.out (FrO.set rfl _ _)⟩
      have HN := HN2.out
      rw [HL2.out, HCG.out.2]
      have e1 : ∀ J : Inst, (L ++ ((⟨2, Cs.none, (L.length : Nat) + 1, 0⟩ : Inst) :: x0.gen (L.length + 1))).set L.length J = L ++ (J :: (x0.gen (L.length + 1))) := fun J => set_mid L _ _ J
      rw [e1]
      have e2 : ((n2 : Nat) : Int) = (L.length + 1 + x0.csize : Nat) := by omega
      rw [e2]
      rfl
end Go.Proofs.Ythnpbopnpdlmnaa

/- The reference's alt. -/
namespace Go.Proofs.Ythnpbopnpdlmnaa
open Go.RowKit
attribute [local go_sem] gives givesUpon

theorem setX_at (L : List Inst) (k : Nat) (f : Inst) (v : Int) (h : L[k]? = some f) : L.set k { f with x := v } = setX L k v := by unfold setX; rw [h]
set_option maxRecDepth 100000 in
set_option maxHeartbeats 8000000 in
theorem altR_any {wb : World} (base : Nat) (hwb : wb.heap.size ≤ base) (xs : List Re) (ad : Option Addr) (cap : Nat) (w : World) (v : Value) (L : List Inst) (hbw : Below wb.heap.size wb w) (hbase : base ≤ w.heap.size) (hO : OwnI w base v L) (hall : Re.AllIn wb xs ad 0) (hlen : xs.length ≤ 1048576) (h1 : 1 ≤ xs.length) (hL : L.length + 5 * Re.sizes xs + 5 ≤ 1000000)
    (hcode : ∀ k (hk : k < xs.length), ∀ (w : World) (cs : List Value) (v : Value) (L : List Inst), xs[k].In wb cs → Below wb.heap.size wb w → base ≤ w.heap.size → OwnI w base v L → L.length + 5 * xs[k].size ≤ 1000000 → Calls Try.prog 39 #[v, .agg cs.toArray] w (RPost base v xs[k].csize xs[k].gen L w)) :
    Calls Try.prog 65 #[v, .slice ad xs.length cap] w (RPost base v (Re.asize xs) (fun n => Re.galt xs n (n + Re.asize xs)) L w) := by
  obtain ⟨a0, c0, rfl⟩ := hO.form
  have HT := hid hcode
  have HBW := hid hbw
  have HALL := hid hall
  have HO := hid hO
  have HOG : Hid (∀ g, (Value.slice a0 L.length c0).ownBlock = some g → wb.heap.size ≤ g) := fun g hg => by have := (hO.lt g hg).1; omega
  clear hcode hall hbw hO
  have hps : ∀ k, k ≤ xs.length → Re.psize (xs.take k) ≤ 5 * Re.sizes xs := fun k _ => Nat.le_trans (Re.psize_le _) (Nat.mul_le_mul_left 5 (Re.counts_take_le _ xs k))
  have HPS := hid hps
  clear hps
  go_enter Try.func65, Try.ntmps65
  go_wp2_with fail
  go_loopw [0, 5, 6, 7] (fun l v i _ wr => ∃ (k : Nat) (a : Option Addr) (n c : Nat) (L' : List Inst) (J : List Nat) (aj : Option Addr) (cj : Nat), k < xs.length ∧ l = .slice a n c ∧ v = .slice aj J.length cj ∧ i = .int .i64 k ∧ Hid (L' = L ++ Re.gpre (xs.take k) L.length ∧ J = Re.jpos (xs.take k) L.length ∧ J.length = k) ∧ Hid (OwnI wr base (.slice a n c) L' ∧ OwnJ wr w.heap.size (.slice aj J.length cj) J ∧ GoTo w (Value.slice a0 L.length c0).ownBlock (Value.slice a n c).ownBlock ∧ FrO (Value.slice a0 L.length c0).ownBlock w wr)) (fun _ _ i _ _ => xs.length - (intOf i).toNat)
  case atStart => exact ⟨0, a0, L.length, c0, L, [], none, 0, by omega, rfl, rfl, rfl, ⟨by simp [Re.gpre], rfl, rfl⟩, HO.out, World.ownsRow_nil _ _ _ _, .inl rfl, FrO.refl _ _⟩
  case round =>
    obtain ⟨k, a, n, c, L', J, aj, cj, hk, rfl, rfl, rfl, HA, HX⟩ := hrel
    have hn : n = L.length + Re.psize (xs.take k) := by have h := HX.out.1.n; rw [HA.out.1, List.length_append, Re.gpre_len] at h; exact h
    have hps := HPS.out k (by omega)
    have hsz := HX.out.2.2.2.size
    have HBR : Hid (Below wb.heap.size wb wr) := HBW.out.trans (HX.out.2.2.2.below HBW.out.size HOG.out)
    have hJ : J.length ≤ k := by rw [HA.out.2.2]; exact Nat.le_refl _
    have hnb : n ≤ 999995 := by omega
    have HN := hid hn
    clear hn
    rcases Nat.lt_or_ge (k + 1) xs.length with hlt | hge
    · have hlt2 : (k : Int) < (xs.length : Int) - 1 := by omega
      obtain ⟨i0, hi, hz0, hz1, hz2⟩ := info_parts info_inst
      go_wp2_with (at_builtin; refine wpList_append_row rfl _ _ 57 rfl base 87 i0 (.agg #[.int .i64 0, .int .u64 0, .int .u64 0, .int .u64 0, .int .u64 0, .int .i64 0, .int .i64 0]) 7 56 Try.underlying57 hi hz0 hz1 hz2 rfl (by decide) _ n ((L').flatMap Inst.cells) rfl (by exact HX.out.1.row.alloc _) ⟨wr.heap.size, 0, none⟩ 1 1 [.int .i64 2, .int .u64 0, .int .u64 0, .int .u64 0, .int .u64 0, .int .i64 ((n : Nat) + 1), .int .i64 0] rfl rfl ?c1 ?c2 ?c3 ?c4 ?c5 (by decide) ?_)
      case c1 =>
        intro j u hj
        rw [Addr.add_lit, Nat.zero_add]
        exact (Row.new (w := wr) (cs := [.int .i64 2, .int .u64 0, .int .u64 0, .int .u64 0, .int .u64 0, .int .i64 ((n : Nat) + 1), .int .i64 0]) (T := 87) rfl).cell j ▸ hj
      case c2 => intro u hu; simp at hu; rcases hu with rfl | rfl | rfl | rfl | rfl | rfl | rfl <;> rfl
      case c3 => unfold maxLen; omega
      case c4 => omega
      case c5 => simp; omega
      intro a1 c1 w1 hown hgrow hnw
      obtain ⟨L1, hL1, hQ1⟩ := (OwnI.grew (I := ⟨2, Cs.none, (n : Nat) + 1, 0⟩) HX.out.1 (.cells #[.int .i64 2, .int .u64 0, .int .u64 0, .int .u64 0, .int .u64 0, .int .i64 ((n : Nat) + 1), .int .i64 0] 87) hown hgrow (fun g hg => (hnw g hg).imp id fun h => (by (try simp at h) <;> (try simp) <;> omega)))
      have HL1 := hid hL1
      have HQ1 := hid hQ1
      clear hL1 hQ1
      clear hown hgrow hnw
      clear hi hz0 hz1 hz2
      clear i0
      have hw1 : wr.heap.size ≤ w1.heap.size := HQ1.out.2.2.size
      have HG1 : Hid (GoTo w (Value.slice a0 L.length c0).ownBlock (Value.slice a1 (n + 1) c1).ownBlock) := HX.out.2.2.1.trans hsz HQ1.out.2.1
      have HF1 : Hid (FrO (Value.slice a0 L.length c0).ownBlock w w1) := HX.out.2.2.2.trans HX.out.2.2.1 HQ1.out.2.2
      have HJ1 : Hid (OwnJ w1 w.heap.size (.slice aj J.length cj) J) := HX.out.2.1.fro HQ1.out.2.2 HX.out.1
      have HBR1 : Hid (Below wb.heap.size wb w1) := HBW.out.trans (HF1.out.below HBW.out.size HOG.out)
      obtain ⟨b, o, p', ad', n', cap', rfl, HC, HI0, hbb⟩ := HALL.out.kid HBR1.out k hk
      have hl1 : L1.length = n + 1 := HQ1.out.1.n.symm
      have hsk : Re.sizes (xs.take k) + xs[k].size ≤ Re.sizes xs := by
        have h1 := Re.counts_take (fun _ => true) xs k xs[k] (by simp)
        have h2 := Re.counts_take_le (fun _ => true) xs (k + 1)
        simp only [Re.sizes, Re.size] at *
        omega
      have hpk := Re.psize_le (xs.take k)
      have HTC := hid (HT.out k hk w1 _ _ L1 HI0.out HBR1.out (by omega) HQ1.out.1 (by have := HN.out; omega))
      have hgl := Re.gen_len xs[k] (n + 1)
      have hcz := Re.csize_le xs[k]
      have HA0 : Hid (L'.length = n) := HX.out.1.n.symm
      clear HX
      go_wp2_with (first | (with_reducible (refine wpList_load_agg rfl 28 _ rfl b (o + (k * 9)) rfl _ _ HC.out Try.underlying28 rfl (size_re9 _ _ _ _ _ _ _ _ _) ?_)))
      refine HTC.out.mono ?_
      unfold RPost
      rintro e w2 ⟨a2, n2, c2, L2, rfl, hL2, ho2, hg2, hf2⟩
      have hn2 : n2 = n + 1 + xs[k].csize := by have h := ho2.n; rw [hL2, List.length_append, hl1, hgl] at h; exact h
      have HN2 := hid hn2
      have hn2b : n2 ≤ 999999 := by have := HN.out; omega
      have hw2 := hf2.size
      have hL2' : L2 = L' ++ (⟨2, Cs.none, (n : Nat) + 1, 0⟩ :: xs[k].gen (n + 1)) := by rw [hL2, hl1, HL1.out]; simp
      have HL2 := hid hL2'
      have hkn : L'.length = n := HA0.out
      have hk2 : L2[n]? = some ⟨2, Cs.none, (n : Nat) + 1, 0⟩ := by rw [hL2', ← hkn]; simp
      have HO2 := hid ho2
      have HG2 : Hid (GoTo w (Value.slice a0 L.length c0).ownBlock (Value.slice a2 n2 c2).ownBlock) := HG1.out.trans HF1.out.size hg2
      have HF2 : Hid (FrO (Value.slice a0 L.length c0).ownBlock w w2) := HF1.out.trans HG1.out hf2
      have HJ2 : Hid (OwnJ w2 w.heap.size (.slice aj J.length cj) J) := HJ1.out.fro hf2 HQ1.out.1
      have HK2 := hid hk2
      have HKN := hid hkn
      clear hn2 hL2 hL2' ho2 hg2 hf2 hk2 hkn HTC HI0 HC HQ1 HG1 HF1 HJ1 hl1 HL1
      obtain ⟨i0, hi, hz0, hz1, hz2⟩ := info_parts info_j
      go_wp2_with (at_builtin; refine wpList_append_row rfl _ _ 69 rfl w.heap.size 3 i0 (.int .i64 0) 1 8 Try.underlying69 hi hz0 hz1 hz2 rfl (by decide) _ J.length (J.map fun j => .int .i64 (j : Nat)) rfl (by have h := HJ2.out.below ((Below.refl _ w2).alloc (Nat.le_refl _) (.cells #[.int .i64 (n2 : Nat)] 3)); exact h) ⟨w2.heap.size, 0, none⟩ 1 1 [.int .i64 (n2 : Nat)] rfl rfl ?c1 ?c2 ?c3 ?c4 ?c5 (by decide) ?_)
      case c1 =>
        intro j u hj
        rw [Addr.add_lit, Nat.zero_add]
        exact (Row.new (w := w2) (cs := [.int .i64 (n2 : Nat)]) (T := 3) rfl).cell j ▸ hj
      case c2 => intro u hu; simp at hu; subst hu; rfl
      case c3 => unfold maxLen; omega
      case c4 => omega
      case c5 => simp; omega
      intro aj2 cj2 w3 hown hgrow hnw
      have hown' : OwnJ w3 w.heap.size (.slice aj2 (J.length + 1) cj2) (J ++ [n2]) := by
        unfold OwnJ
        simpa using hown
      have hal := (Below.refl w2.heap.size w2).alloc (Nat.le_refl _) (.cells #[.int .i64 (n2 : Nat)] 3)
      have hrow : ∀ g, (Value.slice aj J.length cj).ownBlock = some g → w.heap.size ≤ g := fun g hg => (HJ2.out.lt g hg).1
      have ho3 : OwnI w3 base (.slice a2 n2 c2) L2 := (HO2.out.below hal).keptJ (HJ2.out.below hal) hgrow
      have hf3 : FrO (Value.slice a0 L.length c0).ownBlock w w3 := fun BB => FrB.grown ((HF2.out BB).trans HG2.out (FrB.of_below hal)) hgrow hrow
      have HJ3 := hid hown'
      have HO3 := hid ho3
      have HF3 := hid hf3
      have hw3 : w2.heap.size ≤ w3.heap.size := Nat.le_trans hal.size hgrow.size
      clear hown hgrow hnw hown' hal hrow ho3 hf3 HJ2 HO2 HF2
      clear hi hz0 hz1 hz2
      clear i0
      obtain ⟨i0, hi, hz0, hz1, hz2⟩ := info_parts info_inst
      go_wp2_with (at_builtin; refine wpList_append_row rfl _ _ 57 rfl base 87 i0 (.agg #[.int .i64 0, .int .u64 0, .int .u64 0, .int .u64 0, .int .u64 0, .int .i64 0, .int .i64 0]) 7 56 Try.underlying57 hi hz0 hz1 hz2 rfl (by decide) _ n2 ((L2).flatMap Inst.cells) rfl (by exact HO3.out.row.alloc _) ⟨w3.heap.size, 0, none⟩ 1 1 [.int .i64 3, .int .u64 0, .int .u64 0, .int .u64 0, .int .u64 0, .int .i64 0, .int .i64 0] rfl rfl ?c1 ?c2 ?c3 ?c4 ?c5 (by decide) ?_)
      case c1 =>
        intro j u hj
        rw [Addr.add_lit, Nat.zero_add]
        exact (Row.new (w := w3) (cs := [.int .i64 3, .int .u64 0, .int .u64 0, .int .u64 0, .int .u64 0, .int .i64 0, .int .i64 0]) (T := 87) rfl).cell j ▸ hj
      case c2 => intro u hu; simp at hu; rcases hu with rfl | rfl | rfl | rfl | rfl | rfl | rfl <;> rfl
      case c3 => unfold maxLen; omega
      case c4 => omega
      case c5 => simp; omega
      intro a4 c4 w4 hown hgrow hnw
      obtain ⟨L4, hL4, hQ4⟩ := (OwnI.grew (I := ⟨3, Cs.none, 0, 0⟩) HO3.out (.cells #[.int .i64 3, .int .u64 0, .int .u64 0, .int .u64 0, .int .u64 0, .int .i64 0, .int .i64 0] 87) hown hgrow (fun g hg => (hnw g hg).imp id fun h => (by (try simp at h) <;> (try simp) <;> omega)))
      have HL4 := hid hL4
      have HQ4 := hid hQ4
      clear hL4 hQ4
      clear hown hgrow hnw
      clear hi hz0 hz1 hz2
      clear i0
      have HG4 : Hid (GoTo w (Value.slice a0 L.length c0).ownBlock (Value.slice a4 (n2 + 1) c4).ownBlock) := HG2.out.trans HF3.out.size HQ4.out.2.1
      have HF4 : Hid (FrO (Value.slice a0 L.length c0).ownBlock w w4) := HF3.out.trans HG2.out HQ4.out.2.2
      have HJ4 : Hid (OwnJ w4 w.heap.size (.slice aj2 (J.length + 1) cj2) (J ++ [n2])) := HJ3.out.fro HQ4.out.2.2 HO3.out
      have hlt4 : n < L4.length := by rw [HL4.out, List.length_append, ← HO3.out.n]; have := HN2.out; omega
      have hk4 : L4[n]? = some ⟨2, Cs.none, (n : Nat) + 1, 0⟩ := by rw [HL4.out, List.getElem?_append_left (by rw [← HO3.out.n]; have := HN2.out; omega)]; exact HK2.out
      have HO4 := hid HQ4.out.1
      obtain ⟨-, g, rfl, k1, k2, k3, k4, k5, k6⟩ := HO4.out.elem n _ hk4
      have q2 := k3.c7i
      have q3 := k4 (n * 7 + 6)
      have HK := hid (k6 ((n2 : Nat) + 1))
      have hnn : n < n2 + 1 := by have := HN2.out; omega
      clear k1 k3 k4 k5 k6 hk4 hlt4
      go_wp2_with fail
      go_roundw
      case rel =>
        have hfs : FrO (Value.slice (some ⟨g, 0, none⟩) (n2 + 1) c4).ownBlock w4 (w4.setCell ⟨g, n * 7 + 6, none⟩ (.int .i64 ((n2 : Nat) + 1))) := FrO.set rfl _ _
        refine ⟨k + 1, some ⟨g, 0, none⟩, n2 + 1, c4, _, J ++ [n2], aj2, cj2, hlt, rfl, by simp, by go_num, ⟨?_, ?_, by rw [List.length_append, HA.out.2.2]; rfl⟩, HK.out, by rw [List.length_append]; exact HJ4.out.fro hfs HO4.out, HG4.out, HF4.out.trans HG4.out hfs⟩
        · have htk : xs.take (k + 1) = xs.take k ++ [xs[k]] := by rw [List.take_add_one, List.getElem?_eq_getElem hk]; rfl
          rw [htk, Re.gpre_snoc, HL4.out, HL2.out, ← HN.out]
          have e0 : L' ++ ((⟨2, Cs.none, (n : Nat) + 1, 0⟩ : Inst) :: xs[k].gen (n + 1)) ++ [(⟨3, Cs.none, 0, 0⟩ : Inst)] = L' ++ ((⟨2, Cs.none, (n : Nat) + 1, 0⟩ : Inst) :: (xs[k].gen (n + 1) ++ [(⟨3, Cs.none, 0, 0⟩ : Inst)])) := by simp
          rw [e0]
          have e1 : ∀ I : Inst, (L' ++ ((⟨2, Cs.none, (n : Nat) + 1, 0⟩ : Inst) :: (xs[k].gen (n + 1) ++ [(⟨3, Cs.none, 0, 0⟩ : Inst)]))).set n I = L' ++ (I :: (xs[k].gen (n + 1) ++ [(⟨3, Cs.none, 0, 0⟩ : Inst)])) := fun I => by
            have := set_mid L' (xs[k].gen (n + 1) ++ [(⟨3, Cs.none, 0, 0⟩ : Inst)]) (⟨2, Cs.none, (n : Nat) + 1, 0⟩ : Inst) I
            rw [HKN.out] at this
            exact this
          rw [e1, ← List.append_assoc, ← HA.out.1]
          have e2 : ((n2 : Nat) : Int) + 1 = (n + xs[k].csize + 2 : Nat) := by have := HN2.out; omega
          rw [e2]
          rfl
        · have htk : xs.take (k + 1) = xs.take k ++ [xs[k]] := by rw [List.take_add_one, List.getElem?_eq_getElem hk]; rfl
          rw [htk, Re.jpos_snoc, ← HA.out.2.1, ← HN.out, HN2.out]
      case measure => simp [intOf]; omega
    · have he : (xs.length : Int) - 1 = (k : Int) := by omega
      have HKL : Hid (k + 1 = xs.length) := by show _ = _; omega
      obtain ⟨b, o, p', ad', n', cap', rfl, HC, HI0, hbb⟩ := HALL.out.kid HBR.out k hk
      have hl1 : L'.length = n := HX.out.1.n.symm
      have hsk : Re.sizes (xs.take k) + xs[k].size ≤ Re.sizes xs := by
        have h1 := Re.counts_take (fun _ => true) xs k xs[k] (by simp)
        have h2 := Re.counts_take_le (fun _ => true) xs (k + 1)
        simp only [Re.sizes, Re.size] at *
        omega
      have hpk := Re.psize_le (xs.take k)
      have HTC := hid (HT.out k hk wr _ _ L' HI0.out HBR.out (by omega) HX.out.1 (by have := HN.out; omega))
      have hgl := Re.gen_len xs[k] n
      have hcz := Re.csize_le xs[k]
      go_wp2_with (first | (with_reducible (refine wpList_load_agg rfl 28 _ rfl b (o + (k * 9)) rfl _ _ HC.out Try.underlying28 rfl (size_re9 _ _ _ _ _ _ _ _ _) ?_)))
      refine HTC.out.mono ?_
      unfold RPost
      rintro e w2 ⟨a2, n2, c2, L2, rfl, hL2, ho2, hg2, hf2⟩
      have hn2 : n2 = n + xs[k].csize := by have h := ho2.n; rw [hL2, List.length_append, hl1, hgl] at h; exact h
      have HN2 := hid hn2
      have hn2b : n2 ≤ 999999 := by have := HN.out; omega
      have hL2' : L2 = L' ++ xs[k].gen n := by rw [hL2, hl1]
      have HL2 := hid hL2'
      have HO2 := hid ho2
      have HG2 : Hid (GoTo w (Value.slice a0 L.length c0).ownBlock (Value.slice a2 n2 c2).ownBlock) := HX.out.2.2.1.trans hsz hg2
      have HF2 : Hid (FrO (Value.slice a0 L.length c0).ownBlock w w2) := HX.out.2.2.2.trans HX.out.2.2.1 hf2
      have HJ2 : Hid (OwnJ w2 w.heap.size (.slice aj J.length cj) J) := HX.out.2.1.fro hf2 HX.out.1
      have HJL : Hid (∀ j, j ∈ J → j < n2) := fun j hj => by
        rw [HA.out.2.1] at hj
        have h1 := Re.jpos_lt _ _ j hj
        have h2 := HN.out
        have h3 := HN2.out
        omega
      clear hn2 hL2 hL2' ho2 hg2 hf2 HTC HI0 HC HX hl1
      go_wp2_with fail
      go_loopw [8] (fun v wq => ∃ m : Nat, v = .int .i64 m ∧ m ≤ J.length ∧ Hid (OwnI wq base (.slice a2 n2 c2) (setXs L2 (J.take m) (n2 : Nat))) ∧ Hid (OwnJ wq w.heap.size (.slice aj J.length cj) J) ∧ Hid (FrO (Value.slice a0 L.length c0).ownBlock w wq)) (fun v _ => J.length - (intOf v).toNat)
      case atStart => exact ⟨0, rfl, by omega, HO2.out, HJ2.out, HF2.out⟩
      case round =>
        obtain ⟨m, rfl, hmJ, hoq, hjq, hfq⟩ := hrel
        rcases Nat.lt_or_ge m J.length with hm | hm
        · obtain ⟨gj, capj, hvj, hj1, hj2⟩ := World.ownsRow.form hjq.out (by omega)
          injection hvj with e1 e2 e3
          subst e1 e3
          have hcj := World.ownsRow.cellAt hjq.out m (by simp; omega)
          rw [List.getElem?_map, List.getElem?_eq_getElem hm] at hcj
          simp only [Option.map_some] at hcj
          have hkl := HJL.out J[m] (List.getElem_mem hm)
          have htk : J.take (m + 1) = J.take m ++ [J[m]] := by rw [List.take_add_one, List.getElem?_eq_getElem hm]; rfl
          have HSX : Hid (setXs L2 (J.take (m + 1)) (n2 : Nat) = setX (setXs L2 (J.take m) (n2 : Nat)) J[m] (n2 : Nat)) := by
            show List.foldl _ _ _ = _
            rw [htk, List.foldl_append]
            rfl
          generalize J[m] = kk at *
          have hxl : kk < (setXs L2 (J.take m) ((n2 : Nat) : Int)).length := by rw [← hoq.out.n]; exact hkl
          have hk4 : (setXs L2 (J.take m) ((n2 : Nat) : Int))[kk]? = some (setXs L2 (J.take m) ((n2 : Nat) : Int))[kk] := List.getElem?_eq_getElem hxl
          obtain ⟨-, g, rfl, k1, k2, k3, k4, k5, k6⟩ := hoq.out.elem kk _ hk4
          have q2 := k3.c7i
          have q3 := k4 (kk * 7 + 5)
          have hk5 := k5 (n2 : Nat)
          rw [setX_at _ _ _ _ hk4, ← HSX.out] at hk5
          have HK := hid hk5
          generalize (setXs L2 (J.take m) ((n2 : Nat) : Int))[kk] = fI at *
          clear k1 k3 k4 k5 k6 hk4 hxl hk5 htk
          go_wp2_with fail
          go_roundw
          case rel =>
            have hfs : FrO (Value.slice (some ⟨g, 0, none⟩) n2 c2).ownBlock wr (wr.setCell ⟨g, kk * 7 + 5, none⟩ (.int .i64 (n2 : Nat))) := FrO.set rfl _ _
            exact ⟨m + 1, by go_num, by omega, HK.out, hjq.out.fro hfs hoq.out, hfq.out.trans HG2.out hfs⟩
          case measure => simp [intOf]; omega
        · obtain rfl : m = J.length := by omega
          rw [List.take_of_length_le (Nat.le_refl _)] at hoq
          go_wp2_with fail
          go_ret
          refine ⟨a2, n2, c2, _, rfl, ?_, hoq.out, HG2.out, hfq.out⟩
          have hxs : xs = xs.take k ++ [xs[k]] := by
            have := List.take_append_drop k xs
            rw [List.drop_eq_getElem_cons (by omega), List.drop_eq_nil_of_le (by have := HKL.out; omega)] at this
            exact this.symm
          have has : Re.asize xs = Re.psize (xs.take k) + xs[k].csize := by
            have := Re.asize_last (xs.take k) xs[k]
            rw [← hxs] at this
            exact this
          have hz := Re.patched (xs.take k) xs[k] L.length (L.length + Re.asize xs : Nat) L rfl
          rw [← hxs] at hz
          rw [← hz, HL2.out, HA.out.1, HA.out.2.1, HN.out, List.append_assoc]
          have e2 : ((n2 : Nat) : Int) = (L.length + Re.asize xs : Nat) := by have h1 := HN2.out; have h2 := HN.out; omega
          rw [e2]
end Go.Proofs.Ythnpbopnpdlmnaa

/- The reference's code. -/
namespace Go.Proofs.Ythnpbopnpdlmnaa
open Go.RowKit
attribute [local go_sem] gives givesUpon

theorem RPost.after {base : Nat} {v : Value} {c : Nat} {G : Nat → List Inst} {L : List Inst} {w : World} {o : Obj} {e : Ending} {w' : World} (h : RPost base v c G L (w.alloc o) e w') : RPost base v c G L w e w' := by
  obtain ⟨a, n, cap, LL, h1, h2, h3, h4, h5⟩ := h
  exact ⟨a, n, cap, LL, h1, h2, h3, FrB.go0 h4, (FrO.of_below ((Below.refl w.heap.size w).alloc (Nat.le_refl _) o)).trans (.inl rfl) h5⟩
set_option maxRecDepth 100000 in
set_option maxHeartbeats 8000000 in
theorem codeR_any {wb : World} (base : Nat) (hwb : wb.heap.size ≤ base) (t : Re) : t.fine → t.size ≤ 1048576 → ∀ (w : World) (cs : List Value) (v : Value) (L : List Inst), t.In wb cs → Below wb.heap.size wb w → base ≤ w.heap.size → OwnI w base v L → L.length + 5 * t.size ≤ 1000000 → Calls Try.prog 39 #[v, .agg cs.toArray] w (RPost base v t.csize t.gen L w) := by
  induction t using Re.ind with
  | h p xs ih =>
    intro hfine hsz w cs v L hIn hbw hbase hO hL
    rw [Re.fine] at hfine
    obtain ⟨hf4, hf5, ⟨hf6, hfn⟩, hfs⟩ := hfine
    rw [Re.In] at hIn
    obtain ⟨ad, cap, rfl, hwf, hlc, hcm, hnil, hall⟩ := hIn
    rw [Re.size_mk] at hsz hL
    have hlen := Re.sizes_len xs
    have HIH : Hid (∀ a, a ∈ xs → ∀ (w : World) (cs : List Value) (v : Value) (L : List Inst), a.In wb cs → Below wb.heap.size wb w → base ≤ w.heap.size → OwnI w base v L → L.length + 5 * a.size ≤ 1000000 → Calls Try.prog 39 #[v, .agg cs.toArray] w (RPost base v a.csize a.gen L w)) := fun a ha => ih a ha (Re.fines_mem xs hfs a ha) (by
      obtain ⟨i, hi, rfl⟩ := List.getElem_of_mem ha
      have := Re.size_get (xs := xs) (i := i) (a := xs[i]) (by simp)
      omega)
    obtain ⟨a, c, rfl⟩ := hO.form
    have HAL := hid hall
    have HBW := hid hbw
    have hal := (Below.refl w.heap.size w).alloc (Nat.le_refl _) (.cells #[.int .i64 p.op, .int .u64 p.set.a, .int .u64 p.set.b, .int .u64 p.set.c, .int .u64 p.set.d, .int .i64 p.lo, .int .i64 p.hi, .int .i64 p.gr, .slice ad xs.length cap] 28)
    have HOA := hid (hO.alloc (.cells #[.int .i64 p.op, .int .u64 p.set.a, .int .u64 p.set.b, .int .u64 p.set.c, .int .u64 p.set.d, .int .i64 p.lo, .int .i64 p.hi, .int .i64 p.gr, .slice ad xs.length cap] 28))
    have HO0 := hid hO
    have HBWA := hid (hbw.trans (hal.mono hbw.size))
    have HFA := hid (FrO.of_below (go := (Value.slice a L.length c).ownBlock) hal)
    have HOG : Hid (∀ g, (Value.slice a L.length c).ownBlock = some g → wb.heap.size ≤ g) := fun g hg => by have := (hO.lt g hg).1; omega
    have HRE := hid (Row.new (w := w) (B := w.heap.size) (cs := [.int .i64 p.op, .int .u64 p.set.a, .int .u64 p.set.b, .int .u64 p.set.c, .int .u64 p.set.d, .int .i64 p.lo, .int .i64 p.hi, .int .i64 p.gr, .slice ad xs.length cap]) (T := 28) rfl)
    have q0 := HRE.out.c9
    have HF4 := hid hf4
    have HF5 := hid hf5
    have HF6 := hid hf6
    have HFN := hid hfn
    clear ih hf4 hf5 hf6 hfn hfs hall hbw hO hal hwf hnil
    simp only [Pay.cells]
    by_cases o2 : p.op = 2
    · have HOP := hid o2
      have d2 : (p.op == 2) = true := by simp [o2]
      clear o2
      go_enter Try.func39, Try.ntmps39
      obtain ⟨i0, hi, hz0, hz1, hz2⟩ := info_parts info_inst
      go_wp2_with (at_builtin; refine wpList_append_row rfl _ _ 57 rfl base 87 i0 (.agg #[.int .i64 0, .int .u64 0, .int .u64 0, .int .u64 0, .int .u64 0, .int .i64 0, .int .i64 0]) 7 56 Try.underlying57 hi hz0 hz1 hz2 rfl (by decide) _ L.length ((L).flatMap Inst.cells) rfl (by exact HOA.out.row.alloc _) ⟨w.heap.size + 1, 0, none⟩ 1 1 [.int .i64 1, .int .u64 p.set.a, .int .u64 p.set.b, .int .u64 p.set.c, .int .u64 p.set.d, .int .i64 0, .int .i64 0] rfl rfl ?c1 ?c2 ?c3 ?c4 ?c5 (by decide) ?_)
      case c1 =>
        intro j u hj
        rw [Addr.add_lit, Nat.zero_add]
        exact (Row.new (w := (w.alloc (.cells #[.int .i64 p.op, .int .u64 p.set.a, .int .u64 p.set.b, .int .u64 p.set.c, .int .u64 p.set.d, .int .i64 p.lo, .int .i64 p.hi, .int .i64 p.gr, .slice ad xs.length cap] 28))) (cs := [.int .i64 1, .int .u64 p.set.a, .int .u64 p.set.b, .int .u64 p.set.c, .int .u64 p.set.d, .int .i64 0, .int .i64 0]) (T := 87) (B := w.heap.size + 1) (by simp)).cell j ▸ hj
      case c2 => intro u hu; simp at hu; rcases hu with rfl | rfl | rfl | rfl | rfl | rfl | rfl <;> rfl
      case c3 => unfold maxLen; omega
      case c4 => omega
      case c5 => simp; omega
      intro a1 c1 w1 hown hgrow hnw
      obtain ⟨L1, hL1, hQ1⟩ := (OwnI.grew (I := ⟨1, p.set, 0, 0⟩) HOA.out (.cells #[.int .i64 1, .int .u64 p.set.a, .int .u64 p.set.b, .int .u64 p.set.c, .int .u64 p.set.d, .int .i64 0, .int .i64 0] 87) hown hgrow (fun g hg => (hnw g hg).imp id fun h => (by (try simp at h) <;> (try simp) <;> omega)))
      have HL1 := hid hL1
      have HQ1 := hid hQ1
      clear hL1 hQ1
      clear hown hgrow hnw
      clear hi hz0 hz1 hz2
      clear i0
      go_wp2_with fail
      go_ret
      refine ⟨a1, L.length + 1, c1, L1, rfl, ?_, HQ1.out.1, FrB.go0 HQ1.out.2.1, HFA.out.trans (.inl rfl) HQ1.out.2.2⟩
      rw [HL1.out]
      have e2 : (Re.mk p xs).gen = fun _ => [⟨1, p.set, 0, 0⟩] := by funext n; rw [Re.gen]; have := HOP.out; simp [this]; try rfl
      rw [e2]
    by_cases o7 : p.op = 7
    · have HOP := hid o7
      have d2 : (p.op == 2) = false := by simp [o2]
      have d7 : (p.op == 7) = true := by simp [o7]
      clear o2 o7
      go_enter Try.func39, Try.ntmps39
      obtain ⟨i0, hi, hz0, hz1, hz2⟩ := info_parts info_inst
      go_wp2_with (at_builtin; refine wpList_append_row rfl _ _ 57 rfl base 87 i0 (.agg #[.int .i64 0, .int .u64 0, .int .u64 0, .int .u64 0, .int .u64 0, .int .i64 0, .int .i64 0]) 7 56 Try.underlying57 hi hz0 hz1 hz2 rfl (by decide) _ L.length ((L).flatMap Inst.cells) rfl (by exact HOA.out.row.alloc _) ⟨w.heap.size + 1, 0, none⟩ 1 1 [.int .i64 4, .int .u64 0, .int .u64 0, .int .u64 0, .int .u64 0, .int .i64 0, .int .i64 0] rfl rfl ?c1 ?c2 ?c3 ?c4 ?c5 (by decide) ?_)
      case c1 =>
        intro j u hj
        rw [Addr.add_lit, Nat.zero_add]
        exact (Row.new (w := (w.alloc (.cells #[.int .i64 p.op, .int .u64 p.set.a, .int .u64 p.set.b, .int .u64 p.set.c, .int .u64 p.set.d, .int .i64 p.lo, .int .i64 p.hi, .int .i64 p.gr, .slice ad xs.length cap] 28))) (cs := [.int .i64 4, .int .u64 0, .int .u64 0, .int .u64 0, .int .u64 0, .int .i64 0, .int .i64 0]) (T := 87) (B := w.heap.size + 1) (by simp)).cell j ▸ hj
      case c2 => intro u hu; simp at hu; rcases hu with rfl | rfl | rfl | rfl | rfl | rfl | rfl <;> rfl
      case c3 => unfold maxLen; omega
      case c4 => omega
      case c5 => simp; omega
      intro a1 c1 w1 hown hgrow hnw
      obtain ⟨L1, hL1, hQ1⟩ := (OwnI.grew (I := Inst.of 4) HOA.out (.cells #[.int .i64 4, .int .u64 0, .int .u64 0, .int .u64 0, .int .u64 0, .int .i64 0, .int .i64 0] 87) hown hgrow (fun g hg => (hnw g hg).imp id fun h => (by (try simp at h) <;> (try simp) <;> omega)))
      have HL1 := hid hL1
      have HQ1 := hid hQ1
      clear hL1 hQ1
      clear hown hgrow hnw
      clear hi hz0 hz1 hz2
      clear i0
      go_wp2_with fail
      go_ret
      refine ⟨a1, L.length + 1, c1, L1, rfl, ?_, HQ1.out.1, FrB.go0 HQ1.out.2.1, HFA.out.trans (.inl rfl) HQ1.out.2.2⟩
      rw [HL1.out]
      have e2 : (Re.mk p xs).gen = fun _ => [Inst.of 4] := by funext n; rw [Re.gen]; have := HOP.out; simp [this]; try rfl
      rw [e2]
    by_cases o8 : p.op = 8
    · have HOP := hid o8
      have d2 : (p.op == 2) = false := by simp [o2]
      have d7 : (p.op == 7) = false := by simp [o7]
      have d8 : (p.op == 8) = true := by simp [o8]
      clear o2 o7 o8
      go_enter Try.func39, Try.ntmps39
      obtain ⟨i0, hi, hz0, hz1, hz2⟩ := info_parts info_inst
      go_wp2_with (at_builtin; refine wpList_append_row rfl _ _ 57 rfl base 87 i0 (.agg #[.int .i64 0, .int .u64 0, .int .u64 0, .int .u64 0, .int .u64 0, .int .i64 0, .int .i64 0]) 7 56 Try.underlying57 hi hz0 hz1 hz2 rfl (by decide) _ L.length ((L).flatMap Inst.cells) rfl (by exact HOA.out.row.alloc _) ⟨w.heap.size + 1, 0, none⟩ 1 1 [.int .i64 5, .int .u64 0, .int .u64 0, .int .u64 0, .int .u64 0, .int .i64 0, .int .i64 0] rfl rfl ?c1 ?c2 ?c3 ?c4 ?c5 (by decide) ?_)
      case c1 =>
        intro j u hj
        rw [Addr.add_lit, Nat.zero_add]
        exact (Row.new (w := (w.alloc (.cells #[.int .i64 p.op, .int .u64 p.set.a, .int .u64 p.set.b, .int .u64 p.set.c, .int .u64 p.set.d, .int .i64 p.lo, .int .i64 p.hi, .int .i64 p.gr, .slice ad xs.length cap] 28))) (cs := [.int .i64 5, .int .u64 0, .int .u64 0, .int .u64 0, .int .u64 0, .int .i64 0, .int .i64 0]) (T := 87) (B := w.heap.size + 1) (by simp)).cell j ▸ hj
      case c2 => intro u hu; simp at hu; rcases hu with rfl | rfl | rfl | rfl | rfl | rfl | rfl <;> rfl
      case c3 => unfold maxLen; omega
      case c4 => omega
      case c5 => simp; omega
      intro a1 c1 w1 hown hgrow hnw
      obtain ⟨L1, hL1, hQ1⟩ := (OwnI.grew (I := Inst.of 5) HOA.out (.cells #[.int .i64 5, .int .u64 0, .int .u64 0, .int .u64 0, .int .u64 0, .int .i64 0, .int .i64 0] 87) hown hgrow (fun g hg => (hnw g hg).imp id fun h => (by (try simp at h) <;> (try simp) <;> omega)))
      have HL1 := hid hL1
      have HQ1 := hid hQ1
      clear hL1 hQ1
      clear hown hgrow hnw
      clear hi hz0 hz1 hz2
      clear i0
      go_wp2_with fail
      go_ret
      refine ⟨a1, L.length + 1, c1, L1, rfl, ?_, HQ1.out.1, FrB.go0 HQ1.out.2.1, HFA.out.trans (.inl rfl) HQ1.out.2.2⟩
      rw [HL1.out]
      have e2 : (Re.mk p xs).gen = fun _ => [Inst.of 5] := by funext n; rw [Re.gen]; have := HOP.out; simp [this]; try rfl
      rw [e2]
    by_cases o6 : p.op = 6
    · obtain ⟨x0, rfl⟩ : ∃ x0, xs = [x0] := List.length_eq_one_iff.1 (HF6.out o6)
      have HOP := hid o6
      have d2 : (p.op == 2) = false := by simp [o2]
      have d7 : (p.op == 7) = false := by simp [o7]
      have d8 : (p.op == 8) = false := by simp [o8]
      have d6 : (p.op == 6) = true := by simp [o6]
      clear o2 o7 o8 o6
      have hs1 : Re.sizes [x0] = x0.size := Re.sizes_one x0
      obtain ⟨b, o, p', ad', n', cap', rfl, HC, HI0, hbb⟩ := HAL.out.kid HBWA.out 0 (by simp)
      have HC0 : Hid (CellsAt (w.alloc (.cells #[.int .i64 p.op, .int .u64 p.set.a, .int .u64 p.set.b, .int .u64 p.set.c, .int .u64 p.set.d, .int .i64 p.lo, .int .i64 p.hi, .int .i64 p.gr, .slice (some ⟨b, o, none⟩) 1 cap] 28)) b o [.int .i64 p'.op, .int .u64 p'.set.a, .int .u64 p'.set.b, .int .u64 p'.set.c, .int .u64 p'.set.d, .int .i64 p'.lo, .int .i64 p'.hi, .int .i64 p'.gr, .slice ad' n' cap']) := HC
      clear HC
      have HTC := hid (HIH.out x0 (by simp) _ _ _ L HI0.out HBWA.out (by simp; omega) HOA.out (by omega))
      clear hs1
      go_enter Try.func39, Try.ntmps39
      go_wp2_with (first | (with_reducible (refine wpList_load_agg rfl 28 _ rfl b o rfl _ _ HC0.out Try.underlying28 rfl (size_re9 _ _ _ _ _ _ _ _ _) ?_)))
      refine HTC.out.mono ?_
      intro e w1 hp
      obtain ⟨a1, n1, c1, L1, rfl, hL1, ho1, hg1, hf1⟩ := hp.after
      have HP : Hid (L1 = L ++ x0.gen L.length ∧ OwnI w1 base (.slice a1 n1 c1) L1 ∧ _ ∧ _) := ⟨hL1, ho1, hg1, hf1⟩
      clear hL1 ho1 hg1 hf1 hp HTC HC0
      go_wp2_with fail
      go_ret
      refine ⟨a1, n1, c1, L1, rfl, ?_, HP.out.2⟩
      have ho := HOP.out
      have e2 : (Re.mk p [x0]).gen = x0.gen := by funext n; rw [Re.gen, if_neg (by omega), if_neg (by omega), if_neg (by omega), if_neg (by omega), if_neg (by omega)]; simp [Re.gens]
      rw [e2]
      exact HP.out.1
    by_cases o3 : p.op = 3
    · have HOP := hid o3
      have d2 : (p.op == 2) = false := by simp [o2]
      have d7 : (p.op == 7) = false := by simp [o7]
      have d8 : (p.op == 8) = false := by simp [o8]
      have d6 : (p.op == 6) = false := by simp [o6]
      have d3 : (p.op == 3) = true := by simp [o3]
      clear o2 o7 o8 o6 o3
      go_enter Try.func39, Try.ntmps39
      go_wp2_with fail
      clear q0
      go_loopw [0, 5] (fun l i wr => ∃ (k : Nat) (a' : Option Addr) (n' c' : Nat) (L' : List Inst), k ≤ xs.length ∧ l = .slice a' n' c' ∧ i = .int .i64 k ∧ Hid (L' = L ++ Re.gens (xs.take k) L.length) ∧ Hid (OwnI wr base (.slice a' n' c') L' ∧ GoTo w (Value.slice a L.length c).ownBlock (Value.slice a' n' c').ownBlock ∧ FrO (Value.slice a L.length c).ownBlock w wr) ∧ Hid (Row wr w.heap.size [.int .i64 p.op, .int .u64 p.set.a, .int .u64 p.set.b, .int .u64 p.set.c, .int .u64 p.set.d, .int .i64 p.lo, .int .i64 p.hi, .int .i64 p.gr, .slice ad xs.length cap] 28)) (fun _ i _ => xs.length - (intOf i).toNat)
      case atStart => exact ⟨0, a, L.length, c, L, by omega, rfl, rfl, by simp [Hid, Re.gens], ⟨HOA.out, .inl rfl, HFA.out⟩, HRE.out⟩
      case round =>
        obtain ⟨k, a', n', c', L', hk, rfl, rfl, HA, HX, HR⟩ := hrel
        have q0 := HR.out.c9
        have z0 := HR.out.lt
        rcases Nat.lt_or_ge k xs.length with hlt | hge
        · have HBR : Hid (Below wb.heap.size wb wr) := HBW.out.trans (HX.out.2.2.below HBW.out.size HOG.out)
          obtain ⟨b, o, p', ad', n1', cap', rfl, HC, HI0, hbb⟩ := HAL.out.kid HBR.out k hlt
          have hsk : Re.sizes (xs.take k) + xs[k].size ≤ Re.sizes xs := by
            have h1 := Re.counts_take (fun _ => true) xs k xs[k] (by simp)
            have h2 := Re.counts_take_le (fun _ => true) xs (k + 1)
            simp only [Re.sizes, Re.size] at *
            omega
          have hl' : L'.length = L.length + Re.csizes (xs.take k) := by rw [HA.out, List.length_append, Re.gens_len]
          have hck := Re.csizes_le (xs.take k)
          have HTC := hid (HIH.out xs[k] (by simp) wr _ _ L' HI0.out HBR.out (by omega) HX.out.1 (by omega))
          have HL' := hid hl'
          clear hl' hck hsk
          go_wp2_with (first | (with_reducible (refine wpList_load_agg rfl 28 _ rfl b (o + (k * 9)) rfl _ _ HC.out Try.underlying28 rfl (size_re9 _ _ _ _ _ _ _ _ _) ?_)))
          refine HTC.out.mono ?_
          unfold RPost
          rintro e w1 ⟨a1, n1, c1, L1, rfl, hL1, ho1, hg1, hf1⟩
          have HR1 : Hid (Row w1 w.heap.size _ 28) := hf1.row HX.out.1 HR.out (by decide)
          have HO1 := hid ho1
          have HG1 : Hid (GoTo w (Value.slice a L.length c).ownBlock (Value.slice a1 n1 c1).ownBlock) := HX.out.2.1.trans HX.out.2.2.size hg1
          have HF1 : Hid (FrO (Value.slice a L.length c).ownBlock w w1) := HX.out.2.2.trans HX.out.2.1 hf1
          have HL1 := hid hL1
          clear hL1 ho1 hg1 hf1 HTC HC HI0 q0
          go_wp2_with fail
          go_roundw
          case rel =>
            refine ⟨k + 1, a1, n1, c1, L1, by omega, rfl, by go_num, ?_, ⟨HO1.out, HG1.out, HF1.out⟩, HR1.out⟩
            show L1 = _
            have htk : xs.take (k + 1) = xs.take k ++ [xs[k]] := by rw [List.take_add_one, List.getElem?_eq_getElem hlt]; rfl
            rw [HL1.out, HL'.out, HA.out, htk, Re.gens_app, List.append_assoc]
            simp [Re.gens]
          case measure => simp [intOf]; omega
        · obtain rfl : k = xs.length := by omega
          go_wp2_with fail
          go_ret
          refine ⟨a', n', c', L', rfl, ?_, HX.out.1, HX.out.2.1, HX.out.2.2⟩
          have ho := HOP.out
          have e2 : (Re.mk p xs).gen = Re.gens xs := by funext n; rw [Re.gen, if_neg (by omega), if_neg (by omega), if_neg (by omega), if_neg (by omega), if_neg (by omega)]
          rw [e2, HA.out, List.take_length]
    by_cases o4 : p.op = 4
    · have HOP := hid o4
      have d2 : (p.op == 2) = false := by simp [o2]
      have d7 : (p.op == 7) = false := by simp [o7]
      have d8 : (p.op == 8) = false := by simp [o8]
      have d6 : (p.op == 6) = false := by simp [o6]
      have d3 : (p.op == 3) = false := by simp [o3]
      have d4 : (p.op == 4) = true := by simp [o4]
      clear o2 o7 o8 o6 o3 o4
      have HTC := hid (altR_any base hwb xs ad cap _ _ L HBWA.out (by simp; omega) HOA.out HAL.out (by omega) (HF4.out HOP.out) (by omega) (fun k hk => HIH.out xs[k] (by simp)))
      go_enter Try.func39, Try.ntmps39
      go_wp2_with fail
      refine HTC.out.mono ?_
      intro e w1 hp
      obtain ⟨a1, n1, c1, L1, rfl, hL1, ho1, hg1, hf1⟩ := hp.after
      have HP : Hid (L1 = L ++ Re.galt xs L.length (L.length + Re.asize xs) ∧ OwnI w1 base (.slice a1 n1 c1) L1 ∧ _ ∧ _) := ⟨hL1, ho1, hg1, hf1⟩
      clear hL1 ho1 hg1 hf1 hp HTC
      go_wp2_with fail
      go_ret
      refine ⟨a1, n1, c1, L1, rfl, ?_, HP.out.2⟩
      have ho := HOP.out
      have e2 : (Re.mk p xs).gen = fun n => Re.galt xs n (n + Re.asize xs) := by funext n; rw [Re.gen, if_neg (by omega), if_neg (by omega), if_neg (by omega), if_pos ho]
      rw [e2]
      exact HP.out.1
    by_cases o5 : p.op = 5
    · obtain ⟨x0, rfl⟩ : ∃ x0, xs = [x0] := List.length_eq_one_iff.1 (HF5.out o5)
      have HOP := hid o5
      have d2 : (p.op == 2) = false := by simp [o2]
      have d7 : (p.op == 7) = false := by simp [o7]
      have d8 : (p.op == 8) = false := by simp [o8]
      have d6 : (p.op == 6) = false := by simp [o6]
      have d3 : (p.op == 3) = false := by simp [o3]
      have d4 : (p.op == 4) = false := by simp [o4]
      have d5 : (p.op == 5) = true := by simp [o5]
      clear o2 o7 o8 o6 o3 o4 o5
      have hs1 : Re.sizes [x0] = x0.size := Re.sizes_one x0
      have HTC := hid (repR_any base hwb p HOP.out x0 ad cap _ _ L HBWA.out (by simp; omega) HOA.out HAL.out (by omega) (HIH.out x0 (by simp)))
      clear hs1
      go_enter Try.func39, Try.ntmps39
      go_wp2_with fail
      refine HTC.out.mono ?_
      intro e w1 hp
      obtain ⟨a1, n1, c1, L1, rfl, hL1, ho1, hg1, hf1⟩ := hp.after
      have HP : Hid (L1 = L ++ (Re.mk p [x0]).gen L.length ∧ OwnI w1 base (.slice a1 n1 c1) L1 ∧ _ ∧ _) := ⟨hL1, ho1, hg1, hf1⟩
      clear hL1 ho1 hg1 hf1 hp HTC
      go_wp2_with fail
      go_ret
      exact ⟨a1, n1, c1, L1, rfl, HP.out.1, HP.out.2⟩
    have HOP : Hid (p.op ≠ 2 ∧ p.op ≠ 7 ∧ p.op ≠ 8 ∧ p.op ≠ 4 ∧ p.op ≠ 5) := ⟨o2, o7, o8, o4, o5⟩
    have hx : xs = [] := by
      rcases HFN.out with h | h | h | h | h
      · exact absurd h o3
      · exact absurd h o4
      · exact absurd h o5
      · exact absurd h o6
      · exact h
    subst hx
    have d2 : (p.op == 2) = false := by simp [o2]
    have d7 : (p.op == 7) = false := by simp [o7]
    have d8 : (p.op == 8) = false := by simp [o8]
    have d6 : (p.op == 6) = false := by simp [o6]
    have d3 : (p.op == 3) = false := by simp [o3]
    have d4 : (p.op == 4) = false := by simp [o4]
    have d5 : (p.op == 5) = false := by simp [o5]
    clear o2 o7 o8 o6 o3 o4 o5
    go_enter Try.func39, Try.ntmps39
    go_wp2_with fail
    go_ret
    refine ⟨a, L.length, c, L, rfl, ?_, HOA.out, .inl rfl, HFA.out⟩
    obtain ⟨o2, o7, o8, o4, o5⟩ := HOP.out
    rw [Re.gen, if_neg o2, if_neg o7, if_neg o8, if_neg o4, if_neg o5]
    simp [Re.gens]
end Go.Proofs.Ythnpbopnpdlmnaa
