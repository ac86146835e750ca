/- The reference of the parses: situations that were visited. -/
import Derived.Test.YtkinnfejgpnddaaDoorG13
import Derived.Test.YtkinnfejgpnddaaDoorG11
namespace Go.Proofs.YtkinnfejgpnddaaDoor
open Go.RowKit
attribute [local go_sem] gives givesUpon

/-- A situation's three cells. -/
def scell (x : Sit × Value) : List Value := [.int .i64 x.1.1, .int .i64 x.1.2.1, x.2]
def SL (w : World) (L : List (Sit × Value)) : Prop := ∀ x, x ∈ L → SpQ w x.2 x.1.2.2
theorem scells_length (L : List (Sit × Value)) : (L.flatMap scell).length = L.length * 3 := by
  induction L with
  | nil => rfl
  | cons x L ih => rw [List.flatMap_cons, List.length_append, ih]; simp [scell]; omega
theorem scells_get : ∀ (L : List (Sit × Value)) (k : Nat) (x : Sit × Value), L[k]? = some x → (L.flatMap scell)[k * 3]? = some (.int .i64 x.1.1) ∧ (L.flatMap scell)[k * 3 + 1]? = some (.int .i64 x.1.2.1) ∧ (L.flatMap scell)[k * 3 + 2]? = some x.2
  | y :: L, 0, x, h => by simp at h; subst h; exact ⟨rfl, rfl, rfl⟩
  | y :: L, k + 1, x, h => by
    have := scells_get L k x (by simpa using h)
    simpa [scell, show (k + 1) * 3 = k * 3 + 3 by omega] using this
theorem SL.of {w w' : World} {L : List (Sit × Value)} (h : SL w L) (hb : ∀ b cs, Row w b cs 46 → Row w' b cs 46) : SL w' L := fun x hx => (h x hx).of hb
theorem SL.one {w : World} {L : List (Sit × Value)} (h : SL w L) : ∀ u, u ∈ L.flatMap scell → u.oneCell' = true := by
  intro u hu
  obtain ⟨x, hx, hu⟩ := List.mem_flatMap.1 hu
  obtain ⟨a, c, e⟩ := (h x hx).form
  simp only [scell, List.mem_cons, List.not_mem_nil, or_false] at hu
  rcases hu with rfl | rfl | rfl
  · rfl
  · rfl
  · rw [e]; rfl
/-- Situations that the call owns. -/
def OwnS (w : World) (base : Nat) (v : Value) (l : List Sit) : Prop := ∃ L : List (Sit × Value), L.map Prod.fst = l ∧ SL w L ∧ w.ownsRow base 106 3 v l.length (L.flatMap scell)
theorem OwnS.nil (w : World) (base : Nat) : OwnS w base (.slice none 0 0) [] := ⟨[], rfl, (fun _ h => by cases h), World.ownsRow_nil _ _ _ _⟩
theorem OwnS.form {w : World} {base : Nat} {v : Value} {l : List Sit} (h : OwnS w base v l) : ∃ a c, v = .slice a l.length c := by obtain ⟨L, _, _, h3⟩ := h; exact ownsRow_shape h3
theorem OwnS.lt {w : World} {base : Nat} {v : Value} {l : List Sit} (h : OwnS w base v l) : ∀ g, v.ownBlock = some g → base ≤ g ∧ g < w.heap.size := by obtain ⟨L, _, _, h3⟩ := h; exact World.ownsRow.lt h3
theorem OwnS.keep {w w' : World} {base : Nat} {v : Value} {l : List Sit} (h : OwnS w base v l) (hb : ∀ b cs, Row w b cs 46 → Row w' b cs 46) (ho : ∀ g, v.ownBlock = some g → w'.heap[g]? = w.heap[g]?) : OwnS w' base v l := by
  obtain ⟨L, h1, h2, h3, h4⟩ := h
  refine ⟨L, h1, h2.of hb, h3, ?_⟩
  rcases h4 with h4 | ⟨g, cap, cur, hv, hg, hcur, hr⟩
  · exact .inl h4
  · exact .inr ⟨g, cap, cur, hv, hg, (ho g (by rw [hv]; rfl)).trans hcur, hr⟩
theorem OwnS.below {w w' : World} {base : Nat} {v : Value} {l : List Sit} (h : OwnS w base v l) (hf : Below w.heap.size w w') : OwnS w' base v l :=
  h.keep (fun _ _ hr => hr.below hf hr.lt) fun g hg => hf.block g (h.lt g hg).2
theorem OwnS.row {w : World} {base : Nat} {v : Value} {l : List Sit} (h : OwnS w base v l) {g : Nat} (hg : v.ownBlock = some g) : ∃ cs, Row w g cs 106 := by
  obtain ⟨L, h1, h2, h3, h4⟩ := h
  rcases h4 with ⟨h4, -⟩ | ⟨g', cap, cur, hv, -, hcur, -⟩
  · rw [h4] at hg; cases hg
  · rw [hv] at hg
    have : g' = g := by simpa [Value.ownBlock] using hg
    subst this
    exact ⟨cur.toList, hcur⟩
theorem OwnS.get {w : World} {base : Nat} {v : Value} {l : List Sit} (h : OwnS w base v l) {k : Nat} (hk : k < l.length) : ∃ (b c : Nat) (q0 q1 : Nat) (q2 : Spans) (sa : Option Addr) (sc : Nat), l[k]? = some (q0, q1, q2) ∧ v = .slice (some ⟨b, 0, none⟩) l.length c ∧ b < w.heap.size ∧ w.cell? ⟨b, k * 3, none⟩ = some (.int .i64 q0) ∧ w.cell? ⟨b, k * 3 + 1, none⟩ = some (.int .i64 q1) ∧ w.cell? ⟨b, k * 3 + 2, none⟩ = some (.slice sa q2.length sc) ∧ SpQ w (.slice sa q2.length sc) q2 := by
  obtain ⟨L, h1, h2, h3, h4⟩ := h
  rcases h4 with ⟨-, h4⟩ | ⟨g, cap, cur, hv, hg, hcur, hn, hm, hs, hx⟩
  · omega
  · subst h1
    have hkL : k < L.length := by simpa using hk
    have hgt := scells_get L k L[k] (by simp [hkL])
    have hl := scells_length L
    have hsq := h2 L[k] (by simp)
    obtain ⟨sa, sc, e⟩ := hsq.form
    have hc : ∀ j, j < L.length * 3 → w.cell? ⟨g, j, none⟩ = (L.flatMap scell)[j]? := fun j hj => by
      rw [cell_of_row w g j cur 106 (0, 0) hcur, ← hx, List.getElem?_take, if_pos (by simpa using hj)]
      simp
    refine ⟨g, cap, L[k].1.1, L[k].1.2.1, L[k].1.2.2, sa, sc, by simp [hkL], hv, ?_, ?_, ?_, ?_, ?_⟩
    · rcases Nat.lt_or_ge g w.heap.size with h5 | h5
      · exact h5
      · rw [Array.getElem?_eq_none h5] at hcur; cases hcur
    · rw [hc _ (by omega), hgt.1]
    · rw [hc _ (by omega), hgt.2.1]
    · rw [hc _ (by omega), hgt.2.2, e]
    · rw [← e]; exact hsq
theorem info_sit : (Tryd.prog.info? 106).map (fun i => (i.zero, i.size, i.bytes)) = some (some (.agg #[.int .i64 0, .int .i64 0, .slice none 0 0]), 3, 40) := by kernel_rfl

/-- A repetition's state in memory. -/
def LpAt (s : ByteArray) (lines : Bool) (E0 E1 E2 E3 E4 E5 E6 E7 E8 : Value) (base X : Nat) (sv ov : Value) (seen : List Sit) (out : List Parse) (x : World) : Prop :=
  Row x X [.string s, .bool lines, E0, E1, E2, E3, E4, E5, E6, E7, E8, sv, ov] 103 ∧ OwnS x base sv seen ∧ OwnP x base ov (nub out) ∧ base ≤ X
section
variable {s : ByteArray} {lines : Bool} {E0 E1 E2 E3 E4 E5 E6 E7 E8 : Value} {base X : Nat} {sv ov : Value} {seen : List Sit} {out : List Parse}
theorem LpAt.later {x y : World} (h : LpAt s lines E0 E1 E2 E3 E4 E5 E6 E7 E8 base X sv ov seen out x) (hb : Below x.heap.size x y) : LpAt s lines E0 E1 E2 E3 E4 E5 E6 E7 E8 base X sv ov seen out y :=
  ⟨h.1.below hb h.1.lt, h.2.1.below hb, h.2.2.1.below hb, h.2.2.2⟩
theorem LpAt.c {x : World} (h : LpAt s lines E0 E1 E2 E3 E4 E5 E6 E7 E8 base X sv ov seen out x) : (x.cell? ⟨X, 0, none⟩ = some (.string s) ∧ x.cell? ⟨X, 1, none⟩ = some (.bool lines)) ∧ (x.cell? ⟨X, 2, none⟩ = some E0 ∧ x.cell? ⟨X, 3, none⟩ = some E1 ∧ x.cell? ⟨X, 4, none⟩ = some E2 ∧ x.cell? ⟨X, 5, none⟩ = some E3 ∧ x.cell? ⟨X, 6, none⟩ = some E4 ∧ x.cell? ⟨X, 7, none⟩ = some E5 ∧ x.cell? ⟨X, 8, none⟩ = some E6 ∧ x.cell? ⟨X, 9, none⟩ = some E7 ∧ x.cell? ⟨X, 10, none⟩ = some E8) ∧ x.cell? ⟨X, 11, none⟩ = some sv ∧ x.cell? ⟨X, 12, none⟩ = some ov :=
  ⟨⟨h.1.cell 0, h.1.cell 1⟩, ⟨h.1.cell 2, h.1.cell 3, h.1.cell 4, h.1.cell 5, h.1.cell 6, h.1.cell 7, h.1.cell 8, h.1.cell 9, h.1.cell 10⟩, h.1.cell 11, h.1.cell 12⟩
end
-- def LPX := LpAt s lines E0 E1 E2 E3 E4 E5 E6 E7 E8 base X
-- def FN := (*texttools/texttoolsref09.loop).seen
-- def W1 := (w.alloc (.cells #[.int .i64 c0, .int .i64 i, .slice sa sp.length sc] 106))
theorem Row.three9 {w : World} {B : Nat} {a b c : Value} {T : TypeId} (h : Row w B [a, b, c] T) : w.cell? ⟨B, 0, none⟩ = some a ∧ w.cell? ⟨B, 1, none⟩ = some b ∧ w.cell? ⟨B, 2, none⟩ = some c := ⟨h.cell 0, h.cell 1, h.cell 2⟩
set_option maxRecDepth 100000 in
set_option maxHeartbeats 16000000 in
theorem rseen_any (s : ByteArray) (lines : Bool) (E0 E1 E2 E3 E4 E5 E6 E7 E8 : Value) (base X : Nat) (sv ov : Value) (seen : List Sit) (out : List Parse) (w : World) (c0 i : Nat) (sa : Option Addr) (sc : Nat) (sp : Spans) (h : LpAt s lines E0 E1 E2 E3 E4 E5 E6 E7 E8 base X sv ov seen out w) (hsp : SpQ w (.slice sa sp.length sc) sp) (hl : sp.length ≤ 9) (hsl : ∀ y, y ∈ seen → y.2.2.length ≤ 9) (hn : seen.length ≤ 10000) :
    Calls Tryd.prog 81 #[.pointer (some ⟨X, 0, none⟩), .agg #[.int .i64 c0, .int .i64 i, .slice sa sp.length sc]] w fun e w' => e = .returned (.bool (decide ((c0, i, sp) ∈ seen))) ∧ Below w.heap.size w w' := by
  obtain ⟨va, vc, rfl⟩ := h.2.1.form
  obtain ⟨n, hnn⟩ : ∃ n, n = seen.length := ⟨_, rfl⟩
  have HNN := hid hnn
  rw [← hnn] at h
  have hb1 : Below w.heap.size w (w.alloc (.cells #[.int .i64 c0, .int .i64 i, .slice sa sp.length sc] 106)) := (Below.refl _ _).alloc (Nat.le_refl _) _
  have HB1 := hid hb1
  have HL := hid (h.later hb1)
  have HR := hid (Row.new (w := w) (cs := [.int .i64 c0, .int .i64 i, .slice sa sp.length sc]) (T := 106) rfl)
  have HS := hid (hsp.below hb1)
  have HSL := hid hsl
  have q0 := (h.later hb1).c
  have q1 := HR.out.three9
  have hn2 : n ≤ 10000 := by omega
  clear h hb1 hsp hsl hnn hn
  go_enter Tryd.func81, Tryd.ntmps81
  go_wp2_with fail
  go_loopw [5] (fun v5 wr => ∃ (k : Nat), k ≤ n ∧ v5 = .int .i64 k ∧ Hid ((∀ j (hj : j < seen.length), j < k → seen[j] ≠ (c0, i, sp)) ∧ Below ((w.alloc (.cells #[.int .i64 c0, .int .i64 i, .slice sa sp.length sc] 106))).heap.size (w.alloc (.cells #[.int .i64 c0, .int .i64 i, .slice sa sp.length sc] 106)) wr)) (fun v5 _ => n - (intOf v5).toNat)
  case atStart => exact ⟨0, Nat.zero_le _, rfl, fun j _ hj => by omega, Below.refl _ _⟩
  case round =>
    obtain ⟨k, hk, rfl, HX⟩ := hrel
    have hbw := HX.out.2
    have q0 := (HL.out.later hbw).c
    have q1 := (HR.out.below hbw (by simp)).three9
    by_cases hlt : k < n
    · have hltI : (k : Int) < (n : Int) := by omega
      have hks : k < seen.length := by have := HNN.out; omega
      obtain ⟨b, cc, y0, y1, y2, ya, yc, hq, ev, hbl, p0, p1, p2, hsq⟩ := (HL.out.later hbw).2.1.get hks
      injection ev with e1 e2 e3
      subst e1; subst e3
      clear e2
      have HQ := hid hq
      have hyl : y2.length ≤ 9 := HSL.out _ (List.mem_of_getElem? hq)
      have HNE : Hid ((y0, y1, y2) ≠ (c0, i, sp) → ∀ j (hj : j < seen.length), j < k + 1 → seen[j] ≠ (c0, i, sp)) := fun hne j hj h => by
        rcases Nat.lt_or_ge j k with h1 | h1
        · exact HX.out.1 j hj h1
        · have : j = k := by omega
          subst this
          have h2 := HQ.out
          rw [List.getElem?_eq_getElem hj] at h2
          rw [Option.some.inj h2]
          exact hne
      have HMEM : Hid ((y0, y1, y2) ∈ seen) := List.mem_of_getElem? hq
      have HSQ := hid hsq
      have HBW := hid hbw
      have HC0 := hid (⟨p0, p1, p2, hbl⟩ : _ ∧ _ ∧ _ ∧ _)
      have HC := hid (fun (x : World) (hx : Grow wr.drew x) => (⟨((HL.out.later HBW.out).later (grow_below hx)).c, ((HR.out.below HBW.out (by simp)).grow hx).three9, ((grow_below hx).cell (p := ⟨b, k * 3, none⟩) HC0.out.2.2.2).trans HC0.out.1, ((grow_below hx).cell (p := ⟨b, k * 3 + 1, none⟩) HC0.out.2.2.2).trans HC0.out.2.1, ((grow_below hx).cell (p := ⟨b, k * 3 + 2, none⟩) HC0.out.2.2.2).trans HC0.out.2.2.1⟩ : _ ∧ _ ∧ _ ∧ _ ∧ _))
      have HSS := hid (fun (x : World) (hx : Grow wr.drew x) => SameSpansQ_any x (.slice ya y2.length yc) (.slice sa sp.length sc) y2 sp (HSQ.out.below (grow_below hx)) ((HS.out.below HBW.out).below (grow_below hx)) (by omega) (by omega))
      clear hsq hbw hq p0 p1 p2
      have hcase : (y0 ≠ c0 ∨ y1 ≠ i) ∨ (y0 = c0 ∧ y1 = i) := by omega
      rcases hcase with hcase | ⟨rfl, rfl⟩
      · have HNX : Hid ((y0, y1, y2) ≠ (c0, i, sp)) := fun e => by injection e with e1 e2; injection e2 with e2 e3; rcases hcase with h | h; exact h e1; exact h e2
        have hd : ((y0 : Int) == (c0 : Int)) = false ∨ (((y0 : Int) == (c0 : Int)) = true ∧ ((y1 : Int) == (i : Int)) = false) := by
          by_cases h7 : y0 = c0
          · right; subst h7; refine ⟨by simp, ?_⟩; simp; omega
          · left; simp; omega
        clear hcase
        rcases hd with hd | ⟨hd, hd2⟩
        all_goals
          go_wp2_with fail
          refine wp_region_inv 37 (Grow) (by kernel_rfl) (by kernel_rfl) (Grow.refl) (fun _ _ _ => Grow.trans) ?_
          simp only [fill, dstOf, Act.put, List.take_succ_cons, List.take_zero, List.getElem?_toArray, List.getElem?_cons_zero, List.getElem?_cons_succ, Option.bind_some, List.setIfInBounds_toArray, List.set_cons_zero, List.set_cons_succ]
          refine Plan.det 1 rfl (Grow.refl) ?_
          apply Exists.intro
          refine ⟨fun vs x hR hF K hK => ?_, ?_⟩
          · clear hF
            go_simp
            exact hK _ _ (Grow.refl _) rfl
          refine Plan.det 2 rfl (Grow.refl) ?_
          apply Exists.intro
          refine ⟨fun vs x hR hF K hK => ?_, ?_⟩
          · have f0 := hF 0 _ _ rfl rfl; clear hF
            go_simp
            exact hK _ _ (Grow.refl _) rfl
          refine Plan.det 3 rfl (Grow.refl) ?_
          apply Exists.intro
          refine ⟨fun vs x hR hF K hK => ?_, ?_⟩
          · have f1 := hF 0 _ _ rfl rfl; clear hF
            go_simp
            exact hK _ _ (Grow.refl _) rfl
          refine Plan.det 4 rfl (Grow.refl) ?_
          apply Exists.intro
          refine ⟨fun vs x hR hF K hK => ?_, ?_⟩
          · have f2 := hF 0 _ _ rfl rfl; have hc := HC.out x hR; clear hF
            go_simp
            exact hK _ _ (Grow.refl _) rfl
          refine Plan.det 5 rfl (Grow.refl) ?_
          apply Exists.intro
          refine ⟨fun vs x hR hF K hK => ?_, ?_⟩
          · clear hF
            go_simp
            exact hK _ _ (Grow.refl _) rfl
          refine Plan.det 6 rfl (Grow.refl) ?_
          apply Exists.intro
          refine ⟨fun vs x hR hF K hK => ?_, ?_⟩
          · have f3 := hF 1 _ _ rfl rfl; have f4 := hF 0 _ _ rfl rfl; clear hF
            go_simp
            exact hK _ _ (Grow.refl _) rfl
          refine Plan.det 7 rfl (Grow.refl) ?_
          apply Exists.intro
          refine ⟨fun vs x hR hF K hK => ?_, ?_⟩
          · have f5 := hF 0 _ _ rfl rfl; clear hF
            go_simp
            exact hK _ _ (Grow.refl _) rfl
          refine Plan.det 8 rfl (Grow.refl) ?_
          apply Exists.intro
          refine ⟨fun vs x hR hF K hK => ?_, ?_⟩
          · have f6 := hF 0 _ _ rfl rfl; have hc := HC.out x hR; clear hF
            go_simp
            exact hK _ _ (Grow.refl _) rfl
          refine Plan.det 9 rfl (Grow.refl) ?_
          apply Exists.intro
          refine ⟨fun vs x hR hF K hK => ?_, ?_⟩
          · clear hF
            go_simp
            exact hK _ _ (Grow.refl _) rfl
          refine Plan.det 10 rfl (Grow.refl) ?_
          apply Exists.intro
          refine ⟨fun vs x hR hF K hK => ?_, ?_⟩
          · have f8 := hF 0 _ _ rfl rfl; have hc := HC.out x hR; clear hF
            go_simp
            exact hK _ _ (Grow.refl _) rfl
          refine Plan.det 11 rfl (Grow.refl) ?_
          apply Exists.intro
          refine ⟨fun vs x hR hF K hK => ?_, ?_⟩
          · have f7 := hF 2 _ _ rfl rfl; have f9 := hF 0 _ _ rfl rfl; clear hF
            go_simp
            exact hK _ _ (Grow.refl _) rfl
          refine Plan.det 12 rfl (Grow.refl) ?_
          apply Exists.intro
          refine ⟨fun vs x hR hF K hK => ?_, ?_⟩
          · have f10 := hF 0 _ _ rfl rfl; clear hF
            go_simp
            exact hK _ _ (Grow.refl _) rfl
          refine Plan.det 13 rfl (Grow.refl) ?_
          apply Exists.intro
          refine ⟨fun vs x hR hF K hK => ?_, ?_⟩
          · have f11 := hF 0 _ _ rfl rfl; clear hF
            go_simp
            exact hK _ _ (Grow.refl _) rfl
          refine Plan.det 14 rfl (Grow.refl) ?_
          apply Exists.intro
          refine ⟨fun vs x hR hF K hK => ?_, ?_⟩
          · have f11 := hF 1 _ _ rfl rfl; have f12 := hF 0 _ _ rfl rfl; clear hF
            go_simp
            exact hK _ _ (Grow.refl _) rfl
          refine Plan.det 15 rfl (Grow.refl) ?_
          apply Exists.intro
          refine ⟨fun vs x hR hF K hK => ?_, ?_⟩
          · have f11 := hF 2 _ _ rfl rfl; have f13 := hF 0 _ _ rfl rfl; clear hF
            go_simp
            exact hK _ _ (Grow.refl _) rfl
          refine Plan.det 16 rfl (Grow.refl) ?_
          apply Exists.intro
          refine ⟨fun vs x hR hF K hK => ?_, ?_⟩
          · have f11 := hF 3 _ _ rfl rfl; have f14 := hF 0 _ _ rfl rfl; have hc := HC.out x hR; clear hF
            go_simp
            exact hK _ _ (Grow.refl _) rfl
          refine Plan.det 17 rfl (Grow.refl) ?_
          apply Exists.intro
          refine ⟨fun vs x hR hF K hK => ?_, ?_⟩
          · have f11 := hF 4 _ _ rfl rfl; clear hF
            go_simp
            exact hK _ _ (Grow.refl _) rfl
          refine Plan.det 18 rfl (Grow.refl) ?_
          apply Exists.intro
          refine ⟨fun vs x hR hF K hK => ?_, ?_⟩
          · have f11 := hF 5 _ _ rfl rfl; have f15 := hF 1 _ _ rfl rfl; have f16 := hF 0 _ _ rfl rfl; clear hF
            go_simp
            exact hK _ _ (Grow.refl _) rfl
          refine Plan.det 19 rfl (Grow.refl) ?_
          apply Exists.intro
          refine ⟨fun vs x hR hF K hK => ?_, ?_⟩
          · have f11 := hF 6 _ _ rfl rfl; have f17 := hF 0 _ _ rfl rfl; clear hF
            go_simp
            exact hK _ _ (Grow.refl _) rfl
          refine Plan.det 20 rfl (Grow.refl) ?_
          apply Exists.intro
          refine ⟨fun vs x hR hF K hK => ?_, ?_⟩
          · have f11 := hF 7 _ _ rfl rfl; have f18 := hF 0 _ _ rfl rfl; have hc := HC.out x hR; clear hF
            go_simp
            exact hK _ _ (Grow.refl _) rfl
          refine Plan.det 21 rfl (Grow.refl) ?_
          apply Exists.intro
          refine ⟨fun vs x hR hF K hK => ?_, ?_⟩
          · have f11 := hF 8 _ _ rfl rfl; clear hF
            go_simp
            exact hK _ _ (Grow.refl _) rfl
          refine Plan.det 22 rfl (Grow.refl) ?_
          apply Exists.intro
          refine ⟨fun vs x hR hF K hK => ?_, ?_⟩
          · have f11 := hF 9 _ _ rfl rfl; have f20 := hF 0 _ _ rfl rfl; have hc := HC.out x hR; clear hF
            go_simp
            exact hK _ _ (Grow.refl _) rfl
          refine Plan.det 23 rfl (Grow.refl) ?_
          apply Exists.intro
          refine ⟨fun vs x hR hF K hK => ?_, ?_⟩
          · have f11 := hF 10 _ _ rfl rfl; have f19 := hF 2 _ _ rfl rfl; have f21 := hF 0 _ _ rfl rfl; clear hF
            go_simp
            exact hK _ _ (Grow.refl _) rfl
          refine Plan.det 24 rfl (Grow.refl) ?_
          apply Exists.intro
          refine ⟨fun vs x hR hF K hK => ?_, ?_⟩
          · have f11 := hF 11 _ _ rfl rfl; have f22 := hF 0 _ _ rfl rfl; clear hF
            go_simp
            exact hK _ _ (Grow.refl _) rfl
          refine Plan.det 25 rfl (Grow.refl) ?_
          apply Exists.intro
          refine ⟨fun vs x hR hF K hK => ?_, ?_⟩
          · have f11 := hF 12 _ _ rfl rfl; have f23 := hF 0 _ _ rfl rfl; clear hF
            go_simp
            exact hK _ _ (Grow.refl _) rfl
          refine Plan.det 26 rfl (Grow.refl) ?_
          apply Exists.intro
          refine ⟨fun vs x hR hF K hK => ?_, ?_⟩
          · have f24 := hF 0 _ _ rfl rfl; clear hF
            go_simp
            exact hK _ _ (Grow.refl _) rfl
          refine Plan.det 27 rfl (Grow.refl) ?_
          apply Exists.intro
          refine ⟨fun vs x hR hF K hK => ?_, ?_⟩
          · have f24 := hF 1 _ _ rfl rfl; have f25 := hF 0 _ _ rfl rfl; clear hF
            go_simp
            exact hK _ _ (Grow.refl _) rfl
          refine Plan.det 28 rfl (Grow.refl) ?_
          apply Exists.intro
          refine ⟨fun vs x hR hF K hK => ?_, ?_⟩
          · have f24 := hF 2 _ _ rfl rfl; have f26 := hF 0 _ _ rfl rfl; clear hF
            go_simp
            exact hK _ _ (Grow.refl _) rfl
          refine Plan.det 29 rfl (Grow.refl) ?_
          apply Exists.intro
          refine ⟨fun vs x hR hF K hK => ?_, ?_⟩
          · have f24 := hF 3 _ _ rfl rfl; have f27 := hF 0 _ _ rfl rfl; have hc := HC.out x hR; clear hF
            go_simp
            exact hK _ _ (Grow.refl _) rfl
          refine Plan.det 30 rfl (Grow.refl) ?_
          apply Exists.intro
          refine ⟨fun vs x hR hF K hK => ?_, ?_⟩
          · have f24 := hF 4 _ _ rfl rfl; clear hF
            go_simp
            exact hK _ _ (Grow.refl _) rfl
          refine Plan.det 31 rfl (Grow.refl) ?_
          apply Exists.intro
          refine ⟨fun vs x hR hF K hK => ?_, ?_⟩
          · have f24 := hF 5 _ _ rfl rfl; have f28 := hF 1 _ _ rfl rfl; have f29 := hF 0 _ _ rfl rfl; clear hF
            go_simp
            exact hK _ _ (Grow.refl _) rfl
          refine Plan.det 32 rfl (Grow.refl) ?_
          apply Exists.intro
          refine ⟨fun vs x hR hF K hK => ?_, ?_⟩
          · have f24 := hF 6 _ _ rfl rfl; have f30 := hF 0 _ _ rfl rfl; clear hF
            go_simp
            exact hK _ _ (Grow.refl _) rfl
          refine Plan.det 33 rfl (Grow.refl) ?_
          apply Exists.intro
          refine ⟨fun vs x hR hF K hK => ?_, ?_⟩
          · have f24 := hF 7 _ _ rfl rfl; have f31 := hF 0 _ _ rfl rfl; have hc := HC.out x hR; clear hF
            go_simp
            exact hK _ _ (Grow.refl _) rfl
          refine Plan.det 34 rfl (Grow.refl) ?_
          apply Exists.intro
          refine ⟨fun vs x hR hF K hK => ?_, ?_⟩
          · have f24 := hF 8 _ _ rfl rfl; clear hF
            go_simp
            exact hK _ _ (Grow.refl _) rfl
          refine Plan.det 35 rfl (Grow.refl) ?_
          apply Exists.intro
          refine ⟨fun vs x hR hF K hK => ?_, ?_⟩
          · have f24 := hF 9 _ _ rfl rfl; have f33 := hF 0 _ _ rfl rfl; have hc := HC.out x hR; clear hF
            go_simp
            exact hK _ _ (Grow.refl _) rfl
          refine Plan.det 36 rfl (Grow.refl) ?_
          apply Exists.intro
          refine ⟨fun vs x hR hF K hK => ?_, ?_⟩
          · have f24 := hF 10 _ _ rfl rfl; have f32 := hF 2 _ _ rfl rfl; have f34 := hF 0 _ _ rfl rfl; clear hF
            go_simp
            exact hK _ _ (Grow.refl _) rfl
          refine Plan.det 37 rfl (Grow.refl) ?_
          apply Exists.intro
          refine ⟨fun vs x hR hF K hK => ?_, ?_⟩
          · have f24 := hF 11 _ _ rfl rfl; have f35 := hF 0 _ _ rfl rfl; clear hF
            go_simp
            exact hK _ _ (Grow.refl _) rfl
          refine Plan.nil (fun vs x hR hF => ?_)
          have f0 := hF 36 _ _ rfl; have f1 := hF 35 _ _ rfl; have f2 := hF 34 _ _ rfl; have f3 := hF 33 _ _ rfl; have f4 := hF 32 _ _ rfl; have f5 := hF 31 _ _ rfl; have f6 := hF 30 _ _ rfl; have f7 := hF 29 _ _ rfl; have f8 := hF 28 _ _ rfl; have f9 := hF 27 _ _ rfl; have f10 := hF 26 _ _ rfl; have f11 := hF 25 _ _ rfl; have f12 := hF 24 _ _ rfl; have f13 := hF 23 _ _ rfl; have f14 := hF 22 _ _ rfl; have f15 := hF 21 _ _ rfl; have f16 := hF 20 _ _ rfl; have f17 := hF 19 _ _ rfl; have f18 := hF 18 _ _ rfl; have f19 := hF 17 _ _ rfl; have f20 := hF 16 _ _ rfl; have f21 := hF 15 _ _ rfl; have f22 := hF 14 _ _ rfl; have f23 := hF 13 _ _ rfl; have f24 := hF 12 _ _ rfl; have f25 := hF 11 _ _ rfl; have f26 := hF 10 _ _ rfl; have f27 := hF 9 _ _ rfl; have f28 := hF 8 _ _ rfl; have f29 := hF 7 _ _ rfl; have f30 := hF 6 _ _ rfl; have f31 := hF 5 _ _ rfl; have f32 := hF 4 _ _ rfl; have f33 := hF 3 _ _ rfl; have f34 := hF 2 _ _ rfl; have f35 := hF 1 _ _ rfl; have f36 := hF 0 _ _ rfl
          clear hF
          simp only [f0, f1, f2, f3, f4, f5, f6, f7, f8, f9, f10, f11, f12, f13, f14, f15, f16, f17, f18, f19, f20, f21, f22, f23, f24, f25, f26, f27, f28, f29, f30, f31, f32, f33, f34, f35, f36]
          clear f0 f1 f2 f3 f4 f5 f6 f7 f8 f9 f10 f11 f12 f13 f14 f15 f16 f17 f18 f19 f20 f21 f22 f23 f24 f25 f26 f27 f28 f29 f30 f31 f32 f33 f34 f35 f36
          simp only [List.drop_succ_cons, List.drop_zero]
          have HB2 := hid (HBW.out.trans ((grow_below hR).mono HBW.out.size))
          clear HC hR q0 q1
          go_wp2_with fail
          refine ⟨⟨k + 1, by omega, by go_num, HNE.out HNX.out, HB2.out⟩, ?_⟩
          simp [intOf] <;> omega
      · obtain ⟨bb, hbb⟩ : ∃ bb, bb = decide (y2 = sp) := ⟨_, rfl⟩
        rw [← hbb] at HSS
        have HBB := hid hbb
        clear hbb
        go_wp2_with fail
        refine wp_region_inv 37 (Grow) (by kernel_rfl) (by kernel_rfl) (Grow.refl) (fun _ _ _ => Grow.trans) ?_
        simp only [fill, dstOf, Act.put, List.take_succ_cons, List.take_zero, List.getElem?_toArray, List.getElem?_cons_zero, List.getElem?_cons_succ, Option.bind_some, List.setIfInBounds_toArray, List.set_cons_zero, List.set_cons_succ]
        refine Plan.det 1 rfl (Grow.refl) ?_
        apply Exists.intro
        refine ⟨fun vs x hR hF K hK => ?_, ?_⟩
        · clear hF
          go_simp
          exact hK _ _ (Grow.refl _) rfl
        refine Plan.det 2 rfl (Grow.refl) ?_
        apply Exists.intro
        refine ⟨fun vs x hR hF K hK => ?_, ?_⟩
        · have f0 := hF 0 _ _ rfl rfl; clear hF
          go_simp
          exact hK _ _ (Grow.refl _) rfl
        refine Plan.det 3 rfl (Grow.refl) ?_
        apply Exists.intro
        refine ⟨fun vs x hR hF K hK => ?_, ?_⟩
        · have f1 := hF 0 _ _ rfl rfl; clear hF
          go_simp
          exact hK _ _ (Grow.refl _) rfl
        refine Plan.det 4 rfl (Grow.refl) ?_
        apply Exists.intro
        refine ⟨fun vs x hR hF K hK => ?_, ?_⟩
        · have f2 := hF 0 _ _ rfl rfl; have hc := HC.out x hR; clear hF
          go_simp
          exact hK _ _ (Grow.refl _) rfl
        refine Plan.det 5 rfl (Grow.refl) ?_
        apply Exists.intro
        refine ⟨fun vs x hR hF K hK => ?_, ?_⟩
        · clear hF
          go_simp
          exact hK _ _ (Grow.refl _) rfl
        refine Plan.det 6 rfl (Grow.refl) ?_
        apply Exists.intro
        refine ⟨fun vs x hR hF K hK => ?_, ?_⟩
        · have f3 := hF 1 _ _ rfl rfl; have f4 := hF 0 _ _ rfl rfl; clear hF
          go_simp
          exact hK _ _ (Grow.refl _) rfl
        refine Plan.det 7 rfl (Grow.refl) ?_
        apply Exists.intro
        refine ⟨fun vs x hR hF K hK => ?_, ?_⟩
        · have f5 := hF 0 _ _ rfl rfl; clear hF
          go_simp
          exact hK _ _ (Grow.refl _) rfl
        refine Plan.det 8 rfl (Grow.refl) ?_
        apply Exists.intro
        refine ⟨fun vs x hR hF K hK => ?_, ?_⟩
        · have f6 := hF 0 _ _ rfl rfl; have hc := HC.out x hR; clear hF
          go_simp
          exact hK _ _ (Grow.refl _) rfl
        refine Plan.det 9 rfl (Grow.refl) ?_
        apply Exists.intro
        refine ⟨fun vs x hR hF K hK => ?_, ?_⟩
        · clear hF
          go_simp
          exact hK _ _ (Grow.refl _) rfl
        refine Plan.det 10 rfl (Grow.refl) ?_
        apply Exists.intro
        refine ⟨fun vs x hR hF K hK => ?_, ?_⟩
        · have f8 := hF 0 _ _ rfl rfl; have hc := HC.out x hR; clear hF
          go_simp
          exact hK _ _ (Grow.refl _) rfl
        refine Plan.det 11 rfl (Grow.refl) ?_
        apply Exists.intro
        refine ⟨fun vs x hR hF K hK => ?_, ?_⟩
        · have f7 := hF 2 _ _ rfl rfl; have f9 := hF 0 _ _ rfl rfl; clear hF
          go_simp
          exact hK _ _ (Grow.refl _) rfl
        refine Plan.det 12 rfl (Grow.refl) ?_
        apply Exists.intro
        refine ⟨fun vs x hR hF K hK => ?_, ?_⟩
        · have f10 := hF 0 _ _ rfl rfl; clear hF
          go_simp
          exact hK _ _ (Grow.refl _) rfl
        refine Plan.det 13 rfl (Grow.refl) ?_
        apply Exists.intro
        refine ⟨fun vs x hR hF K hK => ?_, ?_⟩
        · have f11 := hF 0 _ _ rfl rfl; clear hF
          go_simp
          exact hK _ _ (Grow.refl _) rfl
        refine Plan.det 14 rfl (Grow.refl) ?_
        apply Exists.intro
        refine ⟨fun vs x hR hF K hK => ?_, ?_⟩
        · have f11 := hF 1 _ _ rfl rfl; have f12 := hF 0 _ _ rfl rfl; clear hF
          go_simp
          exact hK _ _ (Grow.refl _) rfl
        refine Plan.det 15 rfl (Grow.refl) ?_
        apply Exists.intro
        refine ⟨fun vs x hR hF K hK => ?_, ?_⟩
        · have f11 := hF 2 _ _ rfl rfl; have f13 := hF 0 _ _ rfl rfl; clear hF
          go_simp
          exact hK _ _ (Grow.refl _) rfl
        refine Plan.det 16 rfl (Grow.refl) ?_
        apply Exists.intro
        refine ⟨fun vs x hR hF K hK => ?_, ?_⟩
        · have f11 := hF 3 _ _ rfl rfl; have f14 := hF 0 _ _ rfl rfl; have hc := HC.out x hR; clear hF
          go_simp
          exact hK _ _ (Grow.refl _) rfl
        refine Plan.det 17 rfl (Grow.refl) ?_
        apply Exists.intro
        refine ⟨fun vs x hR hF K hK => ?_, ?_⟩
        · have f11 := hF 4 _ _ rfl rfl; clear hF
          go_simp
          exact hK _ _ (Grow.refl _) rfl
        refine Plan.det 18 rfl (Grow.refl) ?_
        apply Exists.intro
        refine ⟨fun vs x hR hF K hK => ?_, ?_⟩
        · have f11 := hF 5 _ _ rfl rfl; have f15 := hF 1 _ _ rfl rfl; have f16 := hF 0 _ _ rfl rfl; clear hF
          go_simp
          exact hK _ _ (Grow.refl _) rfl
        refine Plan.det 19 rfl (Grow.refl) ?_
        apply Exists.intro
        refine ⟨fun vs x hR hF K hK => ?_, ?_⟩
        · have f11 := hF 6 _ _ rfl rfl; have f17 := hF 0 _ _ rfl rfl; clear hF
          go_simp
          exact hK _ _ (Grow.refl _) rfl
        refine Plan.det 20 rfl (Grow.refl) ?_
        apply Exists.intro
        refine ⟨fun vs x hR hF K hK => ?_, ?_⟩
        · have f11 := hF 7 _ _ rfl rfl; have f18 := hF 0 _ _ rfl rfl; have hc := HC.out x hR; clear hF
          go_simp
          exact hK _ _ (Grow.refl _) rfl
        refine Plan.det 21 rfl (Grow.refl) ?_
        apply Exists.intro
        refine ⟨fun vs x hR hF K hK => ?_, ?_⟩
        · have f11 := hF 8 _ _ rfl rfl; clear hF
          go_simp
          exact hK _ _ (Grow.refl _) rfl
        refine Plan.det 22 rfl (Grow.refl) ?_
        apply Exists.intro
        refine ⟨fun vs x hR hF K hK => ?_, ?_⟩
        · have f11 := hF 9 _ _ rfl rfl; have f20 := hF 0 _ _ rfl rfl; have hc := HC.out x hR; clear hF
          go_simp
          exact hK _ _ (Grow.refl _) rfl
        refine Plan.det 23 rfl (Grow.refl) ?_
        apply Exists.intro
        refine ⟨fun vs x hR hF K hK => ?_, ?_⟩
        · have f11 := hF 10 _ _ rfl rfl; have f19 := hF 2 _ _ rfl rfl; have f21 := hF 0 _ _ rfl rfl; clear hF
          go_simp
          exact hK _ _ (Grow.refl _) rfl
        refine Plan.det 24 rfl (Grow.refl) ?_
        apply Exists.intro
        refine ⟨fun vs x hR hF K hK => ?_, ?_⟩
        · have f11 := hF 11 _ _ rfl rfl; have f22 := hF 0 _ _ rfl rfl; clear hF
          go_simp
          exact hK _ _ (Grow.refl _) rfl
        refine Plan.det 25 rfl (Grow.refl) ?_
        apply Exists.intro
        refine ⟨fun vs x hR hF K hK => ?_, ?_⟩
        · have f11 := hF 12 _ _ rfl rfl; have f23 := hF 0 _ _ rfl rfl; clear hF
          go_simp
          exact hK _ _ (Grow.refl _) rfl
        refine Plan.det 26 rfl (Grow.refl) ?_
        apply Exists.intro
        refine ⟨fun vs x hR hF K hK => ?_, ?_⟩
        · have f24 := hF 0 _ _ rfl rfl; clear hF
          go_simp
          exact hK _ _ (Grow.refl _) rfl
        refine Plan.det 27 rfl (Grow.refl) ?_
        apply Exists.intro
        refine ⟨fun vs x hR hF K hK => ?_, ?_⟩
        · have f24 := hF 1 _ _ rfl rfl; have f25 := hF 0 _ _ rfl rfl; clear hF
          go_simp
          exact hK _ _ (Grow.refl _) rfl
        refine Plan.det 28 rfl (Grow.refl) ?_
        apply Exists.intro
        refine ⟨fun vs x hR hF K hK => ?_, ?_⟩
        · have f24 := hF 2 _ _ rfl rfl; have f26 := hF 0 _ _ rfl rfl; clear hF
          go_simp
          exact hK _ _ (Grow.refl _) rfl
        refine Plan.det 29 rfl (Grow.refl) ?_
        apply Exists.intro
        refine ⟨fun vs x hR hF K hK => ?_, ?_⟩
        · have f24 := hF 3 _ _ rfl rfl; have f27 := hF 0 _ _ rfl rfl; have hc := HC.out x hR; clear hF
          go_simp
          exact hK _ _ (Grow.refl _) rfl
        refine Plan.det 30 rfl (Grow.refl) ?_
        apply Exists.intro
        refine ⟨fun vs x hR hF K hK => ?_, ?_⟩
        · have f24 := hF 4 _ _ rfl rfl; clear hF
          go_simp
          exact hK _ _ (Grow.refl _) rfl
        refine Plan.det 31 rfl (Grow.refl) ?_
        apply Exists.intro
        refine ⟨fun vs x hR hF K hK => ?_, ?_⟩
        · have f24 := hF 5 _ _ rfl rfl; have f28 := hF 1 _ _ rfl rfl; have f29 := hF 0 _ _ rfl rfl; clear hF
          go_simp
          exact hK _ _ (Grow.refl _) rfl
        refine Plan.det 32 rfl (Grow.refl) ?_
        apply Exists.intro
        refine ⟨fun vs x hR hF K hK => ?_, ?_⟩
        · have f24 := hF 6 _ _ rfl rfl; have f30 := hF 0 _ _ rfl rfl; clear hF
          go_simp
          exact hK _ _ (Grow.refl _) rfl
        refine Plan.det 33 rfl (Grow.refl) ?_
        apply Exists.intro
        refine ⟨fun vs x hR hF K hK => ?_, ?_⟩
        · have f24 := hF 7 _ _ rfl rfl; have f31 := hF 0 _ _ rfl rfl; have hc := HC.out x hR; clear hF
          go_simp
          exact hK _ _ (Grow.refl _) rfl
        refine Plan.det 34 rfl (Grow.refl) ?_
        apply Exists.intro
        refine ⟨fun vs x hR hF K hK => ?_, ?_⟩
        · have f24 := hF 8 _ _ rfl rfl; clear hF
          go_simp
          exact hK _ _ (Grow.refl _) rfl
        refine Plan.det 35 rfl (Grow.refl) ?_
        apply Exists.intro
        refine ⟨fun vs x hR hF K hK => ?_, ?_⟩
        · have f24 := hF 9 _ _ rfl rfl; have f33 := hF 0 _ _ rfl rfl; have hc := HC.out x hR; clear hF
          go_simp
          exact hK _ _ (Grow.refl _) rfl
        refine Plan.det 36 rfl (Grow.refl) ?_
        apply Exists.intro
        refine ⟨fun vs x hR hF K hK => ?_, ?_⟩
        · have f24 := hF 10 _ _ rfl rfl; have f32 := hF 2 _ _ rfl rfl; have f34 := hF 0 _ _ rfl rfl; clear hF
          go_simp
          refine (HSS.out x hR).mono ?_
          rintro e x1 ⟨rfl, hbe⟩
          exact ⟨_, rfl, hK _ _ hbe rfl⟩
        refine Plan.det 37 rfl (Grow.refl) ?_
        apply Exists.intro
        refine ⟨fun vs x hR hF K hK => ?_, ?_⟩
        · have f24 := hF 11 _ _ rfl rfl; have f35 := hF 0 _ _ rfl rfl; clear hF
          go_simp
          exact hK _ _ (Grow.refl _) rfl
        refine Plan.nil (fun vs x hR hF => ?_)
        have f0 := hF 36 _ _ rfl; have f1 := hF 35 _ _ rfl; have f2 := hF 34 _ _ rfl; have f3 := hF 33 _ _ rfl; have f4 := hF 32 _ _ rfl; have f5 := hF 31 _ _ rfl; have f6 := hF 30 _ _ rfl; have f7 := hF 29 _ _ rfl; have f8 := hF 28 _ _ rfl; have f9 := hF 27 _ _ rfl; have f10 := hF 26 _ _ rfl; have f11 := hF 25 _ _ rfl; have f12 := hF 24 _ _ rfl; have f13 := hF 23 _ _ rfl; have f14 := hF 22 _ _ rfl; have f15 := hF 21 _ _ rfl; have f16 := hF 20 _ _ rfl; have f17 := hF 19 _ _ rfl; have f18 := hF 18 _ _ rfl; have f19 := hF 17 _ _ rfl; have f20 := hF 16 _ _ rfl; have f21 := hF 15 _ _ rfl; have f22 := hF 14 _ _ rfl; have f23 := hF 13 _ _ rfl; have f24 := hF 12 _ _ rfl; have f25 := hF 11 _ _ rfl; have f26 := hF 10 _ _ rfl; have f27 := hF 9 _ _ rfl; have f28 := hF 8 _ _ rfl; have f29 := hF 7 _ _ rfl; have f30 := hF 6 _ _ rfl; have f31 := hF 5 _ _ rfl; have f32 := hF 4 _ _ rfl; have f33 := hF 3 _ _ rfl; have f34 := hF 2 _ _ rfl; have f35 := hF 1 _ _ rfl; have f36 := hF 0 _ _ rfl
        clear hF
        simp only [f0, f1, f2, f3, f4, f5, f6, f7, f8, f9, f10, f11, f12, f13, f14, f15, f16, f17, f18, f19, f20, f21, f22, f23, f24, f25, f26, f27, f28, f29, f30, f31, f32, f33, f34, f35, f36]
        clear f0 f1 f2 f3 f4 f5 f6 f7 f8 f9 f10 f11 f12 f13 f14 f15 f16 f17 f18 f19 f20 f21 f22 f23 f24 f25 f26 f27 f28 f29 f30 f31 f32 f33 f34 f35 f36
        simp only [List.drop_succ_cons, List.drop_zero]
        have HB2 := hid (HBW.out.trans ((grow_below hR).mono HBW.out.size))
        clear HC hR q0 q1 HSS
        cases bb with
        | true =>
          go_wp2_with fail
          go_ret
          have h1 := of_decide_eq_true HBB.out.symm
          have h2 := HMEM.out
          rw [h1] at h2
          exact ⟨ret_bool (decide_eq_true h2).symm, HB1.out.trans (HB2.out.mono (by simp))⟩
        | false =>
          go_wp2_with fail
          refine ⟨⟨k + 1, by omega, by go_num, HNE.out (fun e => ?_), HB2.out⟩, ?_⟩
          · injection e with e1 e2
            injection e2 with e2 e3
            exact of_decide_eq_false HBB.out.symm e3
          · simp [intOf] <;> omega
    · obtain rfl : k = n := by omega
      have hltI : ¬ (k : Int) < (k : Int) := by omega
      have HBW := hid hbw
      clear hbw
      go_wp2_with fail
      go_ret
      refine ⟨ret_bool (decide_eq_false ?_).symm, HB1.out.trans (HBW.out.mono (by simp))⟩
      intro hm
      obtain ⟨j, hj, hje⟩ := List.getElem_of_mem hm
      exact HX.out.1 j hj (by have := HNN.out; omega) hje
end Go.Proofs.YtkinnfejgpnddaaDoor

/- A region that draws its order and holds one call, for which all that comes before it is needed, and whose last operation stores what the call handed back. Nothing here speaks of the program. -/
namespace Go.Proofs.YtkinnfejgpnddaaDoor
open Go.RowKit

section
variable {P : Program} {ops : Array Oper} {Q : Exit → Act → World → Prop}

theorem inv_three (k : Nat) {n m : Nat} (_hkn : k ≤ n) {R : World → World → Prop} {w0 : World} {a0 : Act} {φ : Nat → Value → World → Prop} (hrf : ∀ x, R x x) (htr : ∀ x y z, R x y → R y z → R x z) (hφ : ∀ i v x y, R x y → φ i v x → φ i v y)
    (hB : planB ops n m = true) (_hm : a0.tmps.size = m)
    (hop : ∀ i o, k ≤ i → i < n → ops[i]? = some o → ∀ vs w, R w0 w → (∀ j, j < n → waits ops i j = true → φ j (vs j) w) → (∀ j, j < k → φ j (vs j) w) → StepOf P ops R (φ i) o (fill ops vs n a0) w)
    (hfin : ∀ vs w, R w0 w → (∀ j, j < n → φ j (vs j) w) → wpList P ops Q (ops.toList.drop n) (fill ops vs n a0) w) :
    ∀ (fuel : Nat) (listed : Array Bool) (a : Act) (w : World), Inv ops n R w0 a0 φ listed a w → (∀ j, j < k → listed.getD j false = true) → left ops listed ≤ fuel → wpAny P .any ops Q fuel listed a w := by
  have hB0 := hB
  simp only [planB, Bool.and_eq_true, Bool.or_eq_true, decide_eq_true_eq] at hB
  obtain ⟨⟨⟨⟨⟨hn, hdist⟩, hbnd⟩, _⟩, hc⟩, _⟩ := hB
  have hdist' : ∀ i j, i < n → j < n → j ≠ i → dstOf ops i = none ∨ dstOf ops i ≠ dstOf ops j := by
    intro i j hi hj hne
    have h1 := List.all_eq_true.1 (List.all_eq_true.1 hdist i (List.mem_range.2 hi)) j (List.mem_range.2 hj)
    simp only [Bool.or_eq_true, decide_eq_true_eq, Option.isNone_iff_eq_none] at h1
    rcases h1 with (h1 | h1) | h1
    · omega
    · exact .inl h1
    · exact .inr h1
  intro fuel
  induction fuel with
  | zero =>
    intro listed a w inv hkk hl
    by_cases hdone : ∀ j, j < n → listed.getD j false = true
    · obtain ⟨vs, rfl, hv⟩ := inv.facts
      exact tail_any hB0 0 n listed _ w (Nat.le_refl _) hn inv.size hdone inv.tail hl (hfin vs w inv.above fun j hj => hv j hj (hdone j hj))
    · exfalso
      obtain ⟨j, hj⟩ := Classical.not_forall.1 hdone
      obtain ⟨hj1, hj2⟩ := Classical.not_imp.1 hj
      have : 0 < left ops listed := by
        unfold left
        refine List.countP_pos_iff.2 ⟨j, List.mem_range.2 (by omega), ?_⟩
        rw [inD (by rw [inv.size]; omega) (by simpa using hj2)]; rfl
      omega
  | succ fuel ih =>
    intro listed a w inv hkk hl
    by_cases hdone : ∀ j, j < n → listed.getD j false = true
    · obtain ⟨vs, rfl, hv⟩ := inv.facts
      exact tail_any hB0 _ n listed _ w (Nat.le_refl _) hn inv.size hdone inv.tail hl (hfin vs w inv.above fun j hj => hv j hj (hdone j hj))
    · obtain ⟨j, hj⟩ := Classical.not_forall.1 hdone
      obtain ⟨hj1, hj2⟩ := Classical.not_imp.1 hj
      have hj3 : listed.getD j false = false := by simpa using hj2
      refine ⟨fun h0 => absurd h0 (least_ready hB0 inv.size (i := j) (by omega) (inD (by rw [inv.size]; omega) hj3)), fun i hi => ?_⟩
      have hleft := left_set hi
      have hin : i < n := by
        rcases Nat.lt_or_ge i n with h | h
        · exact h
        · rcases Nat.lt_or_ge n ops.size with hns | hns
          · exact absurd hi (not_ready hB0 hns inv _ j rfl hj1 hj3 i h)
          · obtain ⟨_, o, ho, _⟩ := mem_ready.1 hi
            have hlt : i < ops.size := (Array.getElem?_eq_some_iff.1 ho).1
            omega
      obtain ⟨hun, o, ho, hall⟩ := mem_ready.1 hi
      have hlt : i < ops.size := (Array.getElem?_eq_some_iff.1 ho).1
      obtain ⟨vs, rfl, hv⟩ := inv.facts
      have hdeps : ∀ j, j < n → waits ops i j = true → φ j (vs j) w := by
        intro j hjn hw
        obtain ⟨o', ho', e, he, hb, hon⟩ := waits_spec hw
        have : o' = o := Option.some.inj (ho'.symm.trans ho)
        subst this
        have h3 := hall e he hb
        rw [hon] at h3
        exact hv j hjn h3
      have hki : k ≤ i := by
        rcases Nat.lt_or_ge i k with h | h
        · have := hkk i h
          rw [bothD hun] at this
          cases this
        · exact h
      have hst := hop i o hki hin ho vs w inv.above hdeps (fun j hj => hv j (by omega) (hkk j hj))
      have hd0 : dstOf ops i = o.dst := by simp [dstOf, ho]
      have hnext : ∀ u w', R w w' → φ i u w' → wpAny P .any ops Q fuel (listed.setIfInBounds i true) ((fill ops vs n a0).put o.dst u) w' := by
        intro u w' hR hu
        refine ih _ _ _ ⟨by simp [inv.size], fun j oj hoj hlj e he hb => ?_, fun t ht ht' => by rw [getD_set_ne true (by omega)]; exact inv.tail t ht ht', htr _ _ _ inv.above hR, ⟨fun j => if j = i then u else vs j, ?_, fun j hjn hlj => ?_⟩⟩ (fun j hj => getD_set_true (hkk j hj)) (by omega)
        · by_cases hij : i = j
          · subst hij
            have : oj = o := Option.some.inj (hoj.symm.trans ho)
            subst this
            exact getD_set_true (hall e he hb)
          · rw [getD_set_ne false hij] at hlj
            exact getD_set_true (inv.closed j oj hoj hlj e he hb)
        · rw [← hd0]
          exact fill_set vs a0 i u n (fun j hj hne => hdist' i j hin hj hne) hin
        · by_cases hij : j = i
          · subst hij; simpa using hu
          · simp only [hij, if_false]
            rw [getD_set_ne false (Ne.symm hij)] at hlj
            exact hφ j _ _ _ hR (hv j hjn hlj)
      unfold wpOp
      rw [ho]
      show if Region.wanted o (yielded ops (fill ops vs n a0).tmps) = true then _ else _
      unfold StepOf at hst
      split
      · rename_i hw
        rw [if_pos hw] at hst
        exact .inl (hst.wp fun v w' ⟨h1, h2⟩ => hnext v w' h1 h2)
      · rename_i hw
        rw [if_neg hw] at hst
        exact hnext undef w (hrf w) hst

/-- The frame a, with vs j in the slot of operation j, for each j from n1 on and below n. -/
def fillFrom (ops : Array Oper) (vs : Nat → Value) (n1 : Nat) : Nat → Act → Act
  | 0, a => a
  | k + 1, a => if k < n1 then a else (fillFrom ops vs n1 k a).put (dstOf ops k) (vs k)
/-- What the slot of an operation holds. -/
def slotOf (ops : Array Oper) (a : Act) (j : Nat) : Value := match dstOf ops j with | some d => a.tmps.getD d undef | none => undef
theorem put_self (A : Act) (d : Option Tmp) : A.put d (match d with | some d => A.tmps.getD d undef | none => undef) = A := by
  cases d with
  | none => rfl
  | some d =>
    obtain ⟨tmps, defers⟩ := A
    simp only [Act.put]
    congr 1
    apply Array.ext
    · simp
    · intro i h1 h2
      by_cases hdi : d = i
      · subst hdi
        simp [h2]
      · rw [Array.getElem_setIfInBounds (by simpa using h1), if_neg hdi]
theorem fill_low {vs : Nat → Value} {n1 : Nat} {A : Act} (h : ∀ j, j < n1 → vs j = slotOf ops A j) : ∀ k, k ≤ n1 → fill ops vs k A = A := by
  intro k
  induction k with
  | zero => intro _; rfl
  | succ k ih =>
    intro hk
    rw [fill, ih (by omega), h k (by omega)]
    exact put_self A (dstOf ops k)
theorem fill_from {vs : Nat → Value} {n1 : Nat} {A : Act} (h : ∀ j, j < n1 → vs j = slotOf ops A j) : ∀ k, fill ops vs k A = fillFrom ops vs n1 k A := by
  intro k
  induction k with
  | zero => rfl
  | succ k ih =>
    rw [fillFrom]
    split
    · exact fill_low h (k + 1) (by omega)
    · rw [fill, ih]
/-- What is still to be shown once the call has handed back v. -/
def AfterS (P : Program) (l : List Oper) (Q : Exit → Act → World → Prop) (n N : Nat) (A : Act) (d : Option Tmp) (v : Value) (x : World) : Prop :=
  Plan P l.toArray Q (fun x y => x = y) x N (fun vs => fillFrom l.toArray vs (n + 1) N (A.put d v)) ((l.take N).drop (n + 1)) (n + 1) [(n, fun u _ => u = v)]
/-- What is asked of the call. -/
def CallSS (P : Program) (l : List Oper) (Q : Exit → Act → World → Prop) (n N : Nat) (A : Act) (x : World) : Prop :=
  ∀ o, l[n]? = some o → ∀ K : Value → World → Prop, (∀ v x', AfterS P l Q n N A o.dst v x' → K v x') → if Region.wanted o (yielded l.toArray A.tmps) then gives P o A x K else K undef x
theorem wp_region_store {id : Nat} {a : Act} {w : World} {l : List Oper} (n N : Nat) (hN : N + 1 = l.length) (hnN : n < N) (R : World → World → Prop) (hm : P.follows .mixedOrders = true) (hB : (planC l.toArray n a.tmps.size && (dstOf l.toArray n).isSome) = true) (hBN : planB l.toArray N a.tmps.size = true)
    (hrf : ∀ x, R x x) (htr : ∀ x y z, R x y → R y z → R x z) (h : Plan P l.toArray (fun _ A x => CallSS P l Q n N A x) R w.drew l.length (fun vs => fill l.toArray vs n a) (l.take n) 0 []) : (Code.region id l.toArray true).wp P Q a w := by
  obtain ⟨hB, hds⟩ := Bool.and_eq_true_iff.1 hB
  have hBB := planC_B hB
  obtain ⟨full, f1, f2, f3, f4, f5⟩ := Plan.spec _ _ _ [] h rfl (fun j φ hm => by cases hm) (fun φ hm => by cases hm)
  have hn : n < l.length := by
    simp only [planC, Bool.and_eq_true, decide_eq_true_eq] at hB
    simpa using hB.1.1.1.1.1
  have hbnd : ∀ d, dstOf l.toArray n = some d → d < a.tmps.size := by
    intro d hd
    simp only [planC, Bool.and_eq_true, decide_eq_true_eq] at hB
    have := List.all_eq_true.1 hB.1.1.1.2 n (List.mem_range.2 (by simpa using hn))
    simp only [hd, decide_eq_true_eq] at this
    exact this
  have hlen : full.length = n := by rw [f1]; simp; omega
  refine wp_region_any hm (inv_one (R := R) (w0 := w.drew) (a0 := a) (n := n) (φ := fun i => full.getD i (fun _ _ => True)) hrf htr (fun i v x y hR hp => ?_) hB rfl (fun i o hi ho vs x hR hF => ?_) (fun vs x hR hF fuel listed hsz hd hu hcl hlf => ?_) _ _ _ _ ⟨by simp, fun j oj _ hl => (by rw [repD] at hl; cases hl), fun t _ ht => inD (by simpa using ht) (repD _ _), hrf _, ⟨fun j => match dstOf l.toArray j with | some d => a.tmps.getD d undef | none => undef, (fill_self a n).symm, fun j _ hj => (by rw [repD] at hj; cases hj)⟩⟩ ?_)
  · by_cases hi : i < full.length
    · have he : full.getD i (fun _ _ => True) = full[i] := by simp [hi]
      simp only [he] at hp ⊢
      exact f3 _ (List.getElem_mem hi) v x y hR hp
    · have he : full.getD i (fun _ _ => True) = fun _ _ => True := by rw [List.getD_eq_getElem?_getD, List.getElem?_eq_none (by omega)]; rfl
      simp only [he]
  · have he : full[0 + i]? = some (full.getD i (fun _ _ => True)) := by rw [Nat.zero_add]; simp [show i < full.length by omega]
    refine f4 i o _ (by rw [List.getElem?_take]; rw [if_pos hi]; simpa using ho) he vs x hR fun j φ' hj hf hw => ?_
    have := hF j (by omega) (by rw [Nat.zero_add] at hw; exact hw)
    rwa [List.getD_eq_getElem?_getD, hf] at this
  · have hcall := f5 vs x hR fun j φ hj => by
      have := hF j (by rw [← hlen]; exact (List.getElem?_eq_some_iff.1 hj).1)
      rwa [List.getD_eq_getElem?_getD, hj] at this
    rw [List.drop_of_length_le (by simp)] at hcall
    have hcall' : CallSS P l Q n N (fill l.toArray vs n a) x := hcall
    have hln : listed.getD n true = false := hu n (Nat.le_refl _) (by simpa using hn)
    cases fuel with
    | zero =>
      exfalso
      have : 0 < left l.toArray listed := by
        unfold left
        exact List.countP_pos_iff.2 ⟨n, List.mem_range.2 (by simpa using hn), by rw [hln]; rfl⟩
      omega
    | succ fuel =>
      refine ⟨fun h0 => absurd h0 (least_ready hBB hsz (i := n) (by simpa using hn) hln), fun i hi => ?_⟩
      have hleft := left_set hi
      obtain ⟨hun, o, ho, hall⟩ := mem_ready.1 hi
      have hlt : i < l.toArray.size := (Array.getElem?_eq_some_iff.1 ho).1
      have hin : i = n := by
        rcases Nat.lt_trichotomy i n with h1 | h1 | h1
        · have := hd i h1
          rw [bothD hun] at this
          cases this
        · exact h1
        · exfalso
          simp only [planC, Bool.and_eq_true, decide_eq_true_eq] at hB
          have h2 := List.all_eq_true.1 hB.1.2 i (List.mem_range.2 hlt)
          simp only [Bool.or_eq_true, decide_eq_true_eq] at h2
          rcases h2 with h2 | h2
          · omega
          · obtain ⟨j, hj, hj2⟩ := List.any_eq_true.1 h2
            simp only [Bool.and_eq_true, decide_eq_true_eq] at hj2
            have hjt := List.mem_range.1 hj
            obtain ⟨o', ho', e, he, hb, hon⟩ := waits_spec hj2.2
            have : o' = o := Option.some.inj (ho'.symm.trans ho)
            subst this
            have h3 := hall e he hb
            rw [hon, bothD (hu j hj2.1 (by omega))] at h3
            cases h3
      subst hin
      have hst := hcall' o (by simpa using ho)
      have hd0 : dstOf l.toArray i = o.dst := by simp [dstOf, ho]
      obtain ⟨d, hdd⟩ := Option.isSome_iff_exists.1 hds
      have hnext : ∀ u w', AfterS P l Q i N (fill l.toArray vs i a) o.dst u w' → wpAny P .any l.toArray Q fuel (listed.setIfInBounds i true) ((fill l.toArray vs i a).put o.dst u) w' := by
        intro u w' hA
        unfold AfterS at hA
        obtain ⟨full2, g1, g2, g3, g4, g5⟩ := Plan.spec _ _ _ (((List.range i).map fun j => fun v _ => v = slotOf l.toArray ((fill l.toArray vs i a).put o.dst u) j) ++ [fun v _ => v = u]) hA (by simp) (fun j φ hm => by
          have := List.mem_singleton.1 hm
          injection this with e1 e2
          subst e1; subst e2
          simp) (fun φ hm v x y hR hp => by subst hR; exact hp)
        have hl2 : full2.length = N := by rw [g1]; simp; omega
        have hpre : full2[i]? = some (fun v _ => v = u) := g2 i _ (by simp)
        have hlow : ∀ j, j < i → full2[j]? = some (fun v _ => v = slotOf l.toArray ((fill l.toArray vs i a).put o.dst u) j) := fun j hj => g2 j _ (by rw [List.getElem?_append_left (by simpa using hj)]; simp [hj])
        have hslot : slotOf l.toArray ((fill l.toArray vs i a).put o.dst u) i = u := by
          have hd1 : o.dst = some d := hd0.symm.trans hdd
          have hds2 : d < (fill l.toArray vs i a).tmps.size := by rw [size_fill]; exact hbnd d hdd
          simp only [slotOf, hdd, hd1, Act.put]
          simp [hds2]
        have hfrom : ∀ vs2 x2, (∀ q, q < i + 1 → (full2.getD q (fun _ _ => True)) (vs2 q) x2) → fill l.toArray vs2 N ((fill l.toArray vs i a).put o.dst u) = fillFrom l.toArray vs2 (i + 1) N ((fill l.toArray vs i a).put o.dst u) := by
          intro vs2 x2 hq
          refine fill_from (fun j hj => ?_) N
          have hh := hq j hj
          rcases Nat.lt_or_ge j i with h1 | h1
          · simpa only [List.getD_eq_getElem?_getD, hlow j h1, Option.getD_some] using hh
          · obtain rfl : j = i := by omega
            rw [hslot]
            simpa only [List.getD_eq_getElem?_getD, hpre, Option.getD_some] using hh
        refine inv_three (i + 1) (by omega) (R := fun x y => x = y) (w0 := w') (a0 := (fill l.toArray vs i a).put o.dst u) (n := N) (m := ((fill l.toArray vs i a).put o.dst u).tmps.size) (φ := fun j => full2.getD j (fun _ _ => True)) (fun _ => rfl) (fun _ _ _ => Eq.trans) (fun j v x y hR hp => by subst hR; exact hp) (by rw [size_put, size_fill]; exact hBN) rfl (fun j o2 hj1 hj ho2 vs2 x2 hR hF hL => ?_) (fun vs2 x2 hR hF => ?_) fuel _ _ _ ⟨by simp [hsz], fun j oj hoj hlj e he hb => ?_, fun t ht ht' => by rw [getD_set_ne true (by omega)]; exact hu t (by omega) ht', rfl, ⟨_, (fill_self _ _).symm, fun j hj hlj => ?_⟩⟩ (fun j hj => ?_) (by omega)
        · rw [hfrom vs2 x2 hL]
          have hj2 : j < N := hj
          have he : full2[i + 1 + (j - (i + 1))]? = some (full2.getD j (fun _ _ => True)) := by rw [show i + 1 + (j - (i + 1)) = j by omega]; simp [show j < full2.length by omega]
          have hx := g4 (j - (i + 1)) o2 _ (by rw [List.getElem?_drop, show i + 1 + (j - (i + 1)) = j by omega, List.getElem?_take, if_pos hj2]; simpa using ho2) he vs2 x2 hR fun q φ' hq hf hw => by
            have := hF q (by omega) (by rw [show i + 1 + (j - (i + 1)) = j by omega] at hw; exact hw)
            rwa [List.getD_eq_getElem?_getD, hf] at this
          exact hx
        · rw [hfrom vs2 x2 fun q hq => hF q (by omega)]
          have hx := g5 vs2 x2 hR fun q φ hq => by
            have := hF q (by have := (List.getElem?_eq_some_iff.1 hq).1; omega)
            rwa [List.getD_eq_getElem?_getD, hq] at this
          exact hx
        · by_cases hij : i = j
          · subst hij
            have : oj = o := Option.some.inj (hoj.symm.trans ho)
            subst this
            exact getD_set_true (hall e he hb)
          · rw [getD_set_ne false hij] at hlj
            exact getD_set_true (hcl j oj hoj hlj e he hb)
        · by_cases hij : i = j
          · subst hij
            simp only [List.getD_eq_getElem?_getD, hpre, Option.getD_some]
            have hd1 : o.dst = some d := hd0.symm.trans hdd
            simp only [hdd, hd1, Act.put]
            have hds2 : d < (fill l.toArray vs i a).tmps.size := by rw [size_fill]; exact hbnd d hdd
            simp [hds2]
          · rw [getD_set_ne false hij] at hlj
            rcases Nat.lt_or_ge j i with h1 | h1
            · rw [List.getD_eq_getElem?_getD, hlow j h1]
              rfl
            · exfalso
              have h2 := hu j (by omega) (by simp; omega)
              rw [bothD h2] at hlj
              cases hlj
        · rcases Nat.lt_or_ge j i with h1 | h1
          · exact getD_set_true (hd j h1)
          · obtain rfl : j = i := by omega
            rcases Nat.lt_or_ge j listed.size with h2 | h2
            · simp [h2]
            · rw [hsz] at h2; omega
      unfold wpOp
      rw [ho]
      show if Region.wanted o (yielded l.toArray (fill l.toArray vs i a).tmps) = true then _ else _
      have hst2 := hst (fun v w' => AfterS P l Q i N (fill l.toArray vs i a) o.dst v w') (fun v w' h => h)
      split
      · rename_i hw
        rw [if_pos hw] at hst2
        exact .inl (hst2.wp fun v w' h1 => hnext v w' h1)
      · rename_i hw
        rw [if_neg hw] at hst2
        exact hnext undef x hst2
  · unfold left
    refine Nat.le_trans List.countP_le_length ?_
    simp
end
end Go.Proofs.YtkinnfejgpnddaaDoor
