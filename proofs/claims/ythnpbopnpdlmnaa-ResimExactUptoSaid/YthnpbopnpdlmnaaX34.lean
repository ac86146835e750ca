/- The reference of the parses: situations that were visited. -/
import Derived.Test.YthnpbopnpdlmnaaX33
import Derived.Test.YthnpbopnpdlmnaaX30
namespace Go.Proofs.Ythnpbopnpdlmnaa
open Go.RowKit
attribute [local go_sem] gives givesUpon

def scell (x : Sit × Value) : List Value := [.int .i64 x.1.1, .int .i64 x.1.2.1, x.2]
def SL (w : World) (L : List (Sit × Value)) : Prop := ∀ x, x ∈ L → SpQ w x.2 x.1.2.2
theorem scells_length (L : List (Sit × Value)) : (L.flatMap scell).length = L.length * 3 := by
  induction L with
  | nil => rfl
  | cons x L ih => rw [List.flatMap_cons, List.length_append, ih]; simp [scell]; omega
theorem scells_get : ∀ (L : List (Sit × Value)) (k : Nat) (x : Sit × Value), L[k]? = some x → (L.flatMap scell)[k * 3]? = some (.int .i64 x.1.1) ∧ (L.flatMap scell)[k * 3 + 1]? = some (.int .i64 x.1.2.1) ∧ (L.flatMap scell)[k * 3 + 2]? = some x.2
  | y :: L, 0, x, h => by simp at h; subst h; exact ⟨rfl, rfl, rfl⟩
  | y :: L, k + 1, x, h => by
    have := scells_get L k x (by simpa using h)
    simpa [scell, show (k + 1) * 3 = k * 3 + 3 by omega] using this
theorem SL.of {w w' : World} {L : List (Sit × Value)} (h : SL w L) (hb : ∀ b cs, Row w b cs 47 → Row w' b cs 47) : SL w' L := fun x hx => (h x hx).of hb
def OwnS (w : World) (base : Nat) (v : Value) (l : List Sit) : Prop := ∃ L : List (Sit × Value), L.map Prod.fst = l ∧ SL w L ∧ w.ownsRow base 130 3 v l.length (L.flatMap scell)
theorem OwnS.nil (w : World) (base : Nat) : OwnS w base (.slice none 0 0) [] := ⟨[], rfl, (fun _ h => by cases h), World.ownsRow_nil _ _ _ _⟩
theorem OwnS.form {w : World} {base : Nat} {v : Value} {l : List Sit} (h : OwnS w base v l) : ∃ a c, v = .slice a l.length c := by obtain ⟨L, _, _, h3⟩ := h; exact ownsRow_shape h3
theorem OwnS.lt {w : World} {base : Nat} {v : Value} {l : List Sit} (h : OwnS w base v l) : ∀ g, v.ownBlock = some g → base ≤ g ∧ g < w.heap.size := by obtain ⟨L, _, _, h3⟩ := h; exact World.ownsRow.lt h3
theorem OwnS.keep {w w' : World} {base : Nat} {v : Value} {l : List Sit} (h : OwnS w base v l) (hb : ∀ b cs, Row w b cs 47 → Row w' b cs 47) (ho : ∀ g, v.ownBlock = some g → w'.heap[g]? = w.heap[g]?) : OwnS w' base v l := by
  obtain ⟨L, h1, h2, h3, h4⟩ := h
  refine ⟨L, h1, h2.of hb, h3, ?_⟩
  rcases h4 with h4 | ⟨g, cap, cur, hv, hg, hcur, hr⟩
  · exact .inl h4
  · exact .inr ⟨g, cap, cur, hv, hg, (ho g (by rw [hv]; rfl)).trans hcur, hr⟩
theorem OwnS.below {w w' : World} {base : Nat} {v : Value} {l : List Sit} (h : OwnS w base v l) (hf : Below w.heap.size w w') : OwnS w' base v l :=
  h.keep (fun _ _ hr => hr.below hf hr.lt) fun g hg => hf.block g (h.lt g hg).2
theorem OwnS.row {w : World} {base : Nat} {v : Value} {l : List Sit} (h : OwnS w base v l) {g : Nat} (hg : v.ownBlock = some g) : ∃ cs, Row w g cs 130 := by
  obtain ⟨L, h1, h2, h3, h4⟩ := h
  rcases h4 with ⟨h4, -⟩ | ⟨g', cap, cur, hv, -, hcur, -⟩
  · rw [h4] at hg; cases hg
  · rw [hv] at hg
    have : g' = g := by simpa [Value.ownBlock] using hg
    subst this
    exact ⟨cur.toList, hcur⟩
theorem OwnS.get {w : World} {base : Nat} {v : Value} {l : List Sit} (h : OwnS w base v l) {k : Nat} (hk : k < l.length) : ∃ (b c : Nat) (q0 q1 : Nat) (q2 : Spans) (sa : Option Addr) (sc : Nat), l[k]? = some (q0, q1, q2) ∧ v = .slice (some ⟨b, 0, none⟩) l.length c ∧ b < w.heap.size ∧ w.cell? ⟨b, k * 3, none⟩ = some (.int .i64 q0) ∧ w.cell? ⟨b, k * 3 + 1, none⟩ = some (.int .i64 q1) ∧ w.cell? ⟨b, k * 3 + 2, none⟩ = some (.slice sa q2.length sc) ∧ SpQ w (.slice sa q2.length sc) q2 := by
  obtain ⟨L, h1, h2, h3, h4⟩ := h
  rcases h4 with ⟨-, h4⟩ | ⟨g, cap, cur, hv, hg, hcur, hn, hm, hs, hx⟩
  · omega
  · subst h1
    have hkL : k < L.length := by simpa using hk
    have hgt := scells_get L k L[k] (by simp [hkL])
    have hl := scells_length L
    have hsq := h2 L[k] (by simp)
    obtain ⟨sa, sc, e⟩ := hsq.form
    have hc : ∀ j, j < L.length * 3 → w.cell? ⟨g, j, none⟩ = (L.flatMap scell)[j]? := fun j hj => by
      rw [cell_of_row w g j cur 130 (0, 0) hcur, ← hx, List.getElem?_take, if_pos (by simpa using hj)]
      simp
    refine ⟨g, cap, L[k].1.1, L[k].1.2.1, L[k].1.2.2, sa, sc, by simp [hkL], hv, ?_, ?_, ?_, ?_, ?_⟩
    · rcases Nat.lt_or_ge g w.heap.size with h5 | h5
      · exact h5
      · rw [Array.getElem?_eq_none h5] at hcur; cases hcur
    · rw [hc _ (by omega), hgt.1]
    · rw [hc _ (by omega), hgt.2.1]
    · rw [hc _ (by omega), hgt.2.2, e]
    · rw [← e]; exact hsq
theorem info_sit : (Try.prog.info? 130).map (fun i => (i.zero, i.size, i.bytes)) = some (some (.agg #[.int .i64 0, .int .i64 0, .slice none 0 0]), 3, 40) := by kernel_rfl

def LpAt (s : ByteArray) (lines : Bool) (E0 E1 E2 E3 E4 E5 E6 E7 E8 : Value) (base X : Nat) (sv ov : Value) (seen : List Sit) (out : List Parse) (x : World) : Prop :=
  Row x X [.string s, .bool lines, E0, E1, E2, E3, E4, E5, E6, E7, E8, sv, ov] 127 ∧ OwnS x base sv seen ∧ OwnP x base ov (nub out) ∧ base ≤ X
section
variable {s : ByteArray} {lines : Bool} {E0 E1 E2 E3 E4 E5 E6 E7 E8 : Value} {base X : Nat} {sv ov : Value} {seen : List Sit} {out : List Parse}
theorem LpAt.later {x y : World} (h : LpAt s lines E0 E1 E2 E3 E4 E5 E6 E7 E8 base X sv ov seen out x) (hb : Below x.heap.size x y) : LpAt s lines E0 E1 E2 E3 E4 E5 E6 E7 E8 base X sv ov seen out y :=
  ⟨h.1.below hb h.1.lt, h.2.1.below hb, h.2.2.1.below hb, h.2.2.2⟩
theorem LpAt.c {x : World} (h : LpAt s lines E0 E1 E2 E3 E4 E5 E6 E7 E8 base X sv ov seen out x) : (x.cell? ⟨X, 0, none⟩ = some (.string s) ∧ x.cell? ⟨X, 1, none⟩ = some (.bool lines)) ∧ (x.cell? ⟨X, 2, none⟩ = some E0 ∧ x.cell? ⟨X, 3, none⟩ = some E1 ∧ x.cell? ⟨X, 4, none⟩ = some E2 ∧ x.cell? ⟨X, 5, none⟩ = some E3 ∧ x.cell? ⟨X, 6, none⟩ = some E4 ∧ x.cell? ⟨X, 7, none⟩ = some E5 ∧ x.cell? ⟨X, 8, none⟩ = some E6 ∧ x.cell? ⟨X, 9, none⟩ = some E7 ∧ x.cell? ⟨X, 10, none⟩ = some E8) ∧ x.cell? ⟨X, 11, none⟩ = some sv ∧ x.cell? ⟨X, 12, none⟩ = some ov :=
  ⟨⟨h.1.cell 0, h.1.cell 1⟩, ⟨h.1.cell 2, h.1.cell 3, h.1.cell 4, h.1.cell 5, h.1.cell 6, h.1.cell 7, h.1.cell 8, h.1.cell 9, h.1.cell 10⟩, h.1.cell 11, h.1.cell 12⟩
end
theorem Row.three9 {w : World} {B : Nat} {a b c : Value} {T : TypeId} (h : Row w B [a, b, c] T) : w.cell? ⟨B, 0, none⟩ = some a ∧ w.cell? ⟨B, 1, none⟩ = some b ∧ w.cell? ⟨B, 2, none⟩ = some c := ⟨h.cell 0, h.cell 1, h.cell 2⟩
set_option maxRecDepth 100000 in
set_option maxHeartbeats 16000000 in
theorem rseen_any (s : ByteArray) (lines : Bool) (E0 E1 E2 E3 E4 E5 E6 E7 E8 : Value) (base X : Nat) (sv ov : Value) (seen : List Sit) (out : List Parse) (w : World) (c0 i : Nat) (sa : Option Addr) (sc : Nat) (sp : Spans) (h : LpAt s lines E0 E1 E2 E3 E4 E5 E6 E7 E8 base X sv ov seen out w) (hsp : SpQ w (.slice sa sp.length sc) sp) (hl : sp.length ≤ 9) (hsl : ∀ y, y ∈ seen → y.2.2.length ≤ 9) (hn : seen.length ≤ 10000) :
    Calls Try.prog 97 #[.pointer (some ⟨X, 0, none⟩), .agg #[.int .i64 c0, .int .i64 i, .slice sa sp.length sc]] w fun e w' => e = .returned (.bool (decide ((c0, i, sp) ∈ seen))) ∧ Below w.heap.size w w' := by
  obtain ⟨va, vc, rfl⟩ := h.2.1.form
  obtain ⟨n, hnn⟩ : ∃ n, n = seen.length := ⟨_, rfl⟩
  have HNN := hid hnn
  rw [← hnn] at h
  have hb1 : Below w.heap.size w (w.alloc (.cells #[.int .i64 c0, .int .i64 i, .slice sa sp.length sc] 130)) := (Below.refl _ _).alloc (Nat.le_refl _) _
  have HB1 := hid hb1
  have HL := hid (h.later hb1)
  have HR := hid (Row.new (w := w) (cs := [.int .i64 c0, .int .i64 i, .slice sa sp.length sc]) (T := 130) rfl)
  have HS := hid (hsp.below hb1)
  have HSL := hid hsl
  have q0 := (h.later hb1).c
  have q1 := HR.out.three9
  have hn2 : n ≤ 10000 := by omega
  clear h hb1 hsp hsl hnn hn
  go_enter Try.func97, Try.ntmps97
  go_wp2_with fail
  go_loopw [5] (fun v5 wr => ∃ (k : Nat), k ≤ n ∧ v5 = .int .i64 k ∧ Hid ((∀ j (hj : j < seen.length), j < k → seen[j] ≠ (c0, i, sp)) ∧ Below ((w.alloc (.cells #[.int .i64 c0, .int .i64 i, .slice sa sp.length sc] 130))).heap.size (w.alloc (.cells #[.int .i64 c0, .int .i64 i, .slice sa sp.length sc] 130)) wr)) (fun v5 _ => n - (intOf v5).toNat)
  case atStart => exact ⟨0, Nat.zero_le _, rfl, fun j _ hj => by omega, Below.refl _ _⟩
  case round =>
    obtain ⟨k, hk, rfl, HX⟩ := hrel
    have hbw := HX.out.2
    have q0 := (HL.out.later hbw).c
    have q1 := (HR.out.below hbw (by simp)).three9
    by_cases hlt : k < n
    · have hltI : (k : Int) < (n : Int) := by omega
      have hks : k < seen.length := by have := HNN.out; omega
      obtain ⟨b, cc, y0, y1, y2, ya, yc, hq, ev, hbl, p0, p1, p2, hsq⟩ := (HL.out.later hbw).2.1.get hks
      injection ev with e1 e2 e3
      subst e1; subst e3
      clear e2
      have HQ := hid hq
      have hyl : y2.length ≤ 9 := HSL.out _ (List.mem_of_getElem? hq)
      have HNE : Hid ((y0, y1, y2) ≠ (c0, i, sp) → ∀ j (hj : j < seen.length), j < k + 1 → seen[j] ≠ (c0, i, sp)) := fun hne j hj h => by
        rcases Nat.lt_or_ge j k with h1 | h1
        · exact HX.out.1 j hj h1
        · have : j = k := by omega
          subst this
          have h2 := HQ.out
          rw [List.getElem?_eq_getElem hj] at h2
          rw [Option.some.inj h2]
          exact hne
      have HMEM : Hid ((y0, y1, y2) ∈ seen) := List.mem_of_getElem? hq
      have HSQ := hid hsq
      have HBW := hid hbw
      have HC0 := hid (⟨p0, p1, p2, hbl⟩ : _ ∧ _ ∧ _ ∧ _)
      have HC := hid (fun (x : World) (hx : Grow wr.drew x) => (⟨((HL.out.later HBW.out).later (grow_below hx)).c, ((HR.out.below HBW.out (by simp)).grow hx).three9, ((grow_below hx).cell (p := ⟨b, k * 3, none⟩) HC0.out.2.2.2).trans HC0.out.1, ((grow_below hx).cell (p := ⟨b, k * 3 + 1, none⟩) HC0.out.2.2.2).trans HC0.out.2.1, ((grow_below hx).cell (p := ⟨b, k * 3 + 2, none⟩) HC0.out.2.2.2).trans HC0.out.2.2.1⟩ : _ ∧ _ ∧ _ ∧ _ ∧ _))
      have HSS := hid (fun (x : World) (hx : Grow wr.drew x) => SameSpansQ_any x (.slice ya y2.length yc) (.slice sa sp.length sc) y2 sp (HSQ.out.below (grow_below hx)) ((HS.out.below HBW.out).below (grow_below hx)) (by omega) (by omega))
      clear hsq hbw hq p0 p1 p2
      have hcase : (y0 ≠ c0 ∨ y1 ≠ i) ∨ (y0 = c0 ∧ y1 = i) := by omega
      rcases hcase with hcase | ⟨rfl, rfl⟩
      · have HNX : Hid ((y0, y1, y2) ≠ (c0, i, sp)) := fun e => by injection e with e1 e2; injection e2 with e2 e3; rcases hcase with h | h; exact h e1; exact h e2
        have hd : ((y0 : Int) == (c0 : Int)) = false ∨ (((y0 : Int) == (c0 : Int)) = true ∧ ((y1 : Int) == (i : Int)) = false) := by
          by_cases h7 : y0 = c0
          · right; subst h7; refine ⟨by simp, ?_⟩; simp; omega
          · left; simp; omega
        clear hcase
        rcases hd with hd | ⟨hd, hd2⟩
        all_goals
          go_wp2_with fail
          refine wp_region_inv 37 (Grow) (by kernel_rfl) (by kernel_rfl) (Grow.refl) (fun _ _ _ => Grow.trans) ?_
          simp only [fill, dstOf, Act.put, List.take_succ_cons, List.take_zero, List.getElem?_toArray, List.getElem?_cons_zero, List.getElem?_cons_succ, Option.bind_some, List.setIfInBounds_toArray, List.set_cons_zero, List.set_cons_succ]
          refine Plan.det 1 rfl (Grow.refl) ?_
          apply Exists.intro
          refine ⟨fun vs x hR hF K hK => ?_, ?_⟩
          · clear hF
            go_simp
            exact hK _ _ (Grow.refl _) rfl
          refine Plan.det 2 rfl (Grow.refl) ?_
          apply Exists.intro
          refine ⟨fun vs x hR hF K hK => ?_, ?_⟩
          · have f0 := hF 0 _ _ rfl rfl; clear hF
            go_simp
            exact hK _ _ (Grow.refl _) rfl
          refine Plan.det 3 rfl (Grow.refl) ?_
          apply Exists.intro
          refine ⟨fun vs x hR hF K hK => ?_, ?_⟩
          · have f1 := hF 0 _ _ rfl rfl; clear hF
            go_simp
            exact hK _ _ (Grow.refl _) rfl
          refine Plan.det 4 rfl (Grow.refl) ?_
          apply Exists.intro
          refine ⟨fun vs x hR hF K hK => ?_, ?_⟩
          · have f2 := hF 0 _ _ rfl rfl; have hc := HC.out x hR; clear hF
            go_simp
            exact hK _ _ (Grow.refl _) rfl
          refine Plan.det 5 rfl (Grow.refl) ?_
          apply Exists.intro
          refine ⟨fun vs x hR hF K hK => ?_, ?_⟩
          · clear hF
            go_simp
            exact hK _ _ (Grow.refl _) rfl
          refine Plan.det 6 rfl (Grow.refl) ?_
          apply Exists.intro
          refine ⟨fun vs x hR hF K hK => ?_, ?_⟩
          · have f3 := hF 1 _ _ rfl rfl; have f4 := hF 0 _ _ rfl rfl; clear hF
            go_simp
            exact hK _ _ (Grow.refl _) rfl
          refine Plan.det 7 rfl (Grow.refl) ?_
          apply Exists.intro
          refine ⟨fun vs x hR hF K hK => ?_, ?_⟩
          · have f5 := hF 0 _ _ rfl rfl; clear hF
            go_simp
            exact hK _ _ (Grow.refl _) rfl
          refine Plan.det 8 rfl (Grow.refl) ?_
          apply Exists.intro
          refine ⟨fun vs x hR hF K hK => ?_, ?_⟩
          · have f6 := hF 0 _ _ rfl rfl; have hc := HC.out x hR; clear hF
            go_simp
            exact hK _ _ (Grow.refl _) rfl
          refine Plan.det 9 rfl (Grow.refl) ?_
          apply Exists.intro
          refine ⟨fun vs x hR hF K hK => ?_, ?_⟩
          · clear hF
            go_simp
            exact hK _ _ (Grow.refl _) rfl
          refine Plan.det 10 rfl (Grow.refl) ?_
          apply Exists.intro
          refine ⟨fun vs x hR hF K hK => ?_, ?_⟩
          · have f8 := hF 0 _ _ rfl rfl; have hc := HC.out x hR; clear hF
            go_simp
            exact hK _ _ (Grow.refl _) rfl
          refine Plan.det 11 rfl (Grow.refl) ?_
          apply Exists.intro
          refine ⟨fun vs x hR hF K hK => ?_, ?_⟩
          · have f7 := hF 2 _ _ rfl rfl; have f9 := hF 0 _ _ rfl rfl; clear hF
            go_simp
            exact hK _ _ (Grow.refl _) rfl
          refine Plan.det 12 rfl (Grow.refl) ?_
          apply Exists.intro
          refine ⟨fun vs x hR hF K hK => ?_, ?_⟩
          · have f10 := hF 0 _ _ rfl rfl; clear hF
            go_simp
            exact hK _ _ (Grow.refl _) rfl
          refine Plan.det 13 rfl (Grow.refl) ?_
          apply Exists.intro
          refine ⟨fun vs x hR hF K hK => ?_, ?_⟩
          · have f11 := hF 0 _ _ rfl rfl; clear hF
            go_simp
            exact hK _ _ (Grow.refl _) rfl
          refine Plan.det 14 rfl (Grow.refl) ?_
          apply Exists.intro
          refine ⟨fun vs x hR hF K hK => ?_, ?_⟩
          · have f11 := hF 1 _ _ rfl rfl; have f12 := hF 0 _ _ rfl rfl; clear hF
            go_simp
            exact hK _ _ (Grow.refl _) rfl
          refine Plan.det 15 rfl (Grow.refl) ?_
          apply Exists.intro
          refine ⟨fun vs x hR hF K hK => ?_, ?_⟩
          · have f11 := hF 2 _ _ rfl rfl; have f13 := hF 0 _ _ rfl rfl; clear hF
            go_simp
            exact hK _ _ (Grow.refl _) rfl
          refine Plan.det 16 rfl (Grow.refl) ?_
          apply Exists.intro
          refine ⟨fun vs x hR hF K hK => ?_, ?_⟩
          · have f11 := hF 3 _ _ rfl rfl; have f14 := hF 0 _ _ rfl rfl; have hc := HC.out x hR; clear hF
            go_simp
            exact hK _ _ (Grow.refl _) rfl
          refine Plan.det 17 rfl (Grow.refl) ?_
          apply Exists.intro
          refine ⟨fun vs x hR hF K hK => ?_, ?_⟩
          · have f11 := hF 4 _ _ rfl rfl; clear hF
            go_simp
            exact hK _ _ (Grow.refl _) rfl
          refine Plan.det 18 rfl (Grow.refl) ?_
          apply Exists.intro
          refine ⟨fun vs x hR hF K hK => ?_, ?_⟩
          · have f11 := hF 5 _ _ rfl rfl; have f15 := hF 1 _ _ rfl rfl; have f16 := hF 0 _ _ rfl rfl; clear hF
            go_simp
            exact hK _ _ (Grow.refl _) rfl
          refine Plan.det 19 rfl (Grow.refl) ?_
          apply Exists.intro
          refine ⟨fun vs x hR hF K hK => ?_, ?_⟩
          · have f11 := hF 6 _ _ rfl rfl; have f17 := hF 0 _ _ rfl rfl; clear hF
            go_simp
            exact hK _ _ (Grow.refl _) rfl
          refine Plan.det 20 rfl (Grow.refl) ?_
          apply Exists.intro
          refine ⟨fun vs x hR hF K hK => ?_, ?_⟩
          · have f11 := hF 7 _ _ rfl rfl; have f18 := hF 0 _ _ rfl rfl; have hc := HC.out x hR; clear hF
            go_simp
            exact hK _ _ (Grow.refl _) rfl
          refine Plan.det 21 rfl (Grow.refl) ?_
          apply Exists.intro
          refine ⟨fun vs x hR hF K hK => ?_, ?_⟩
          · have f11 := hF 8 _ _ rfl rfl; clear hF
            go_simp
            exact hK _ _ (Grow.refl _) rfl
          refine Plan.det 22 rfl (Grow.refl) ?_
          apply Exists.intro
          refine ⟨fun vs x hR hF K hK => ?_, ?_⟩
          · have f11 := hF 9 _ _ rfl rfl; have f20 := hF 0 _ _ rfl rfl; have hc := HC.out x hR; clear hF
            go_simp
            exact hK _ _ (Grow.refl _) rfl
          refine Plan.det 23 rfl (Grow.refl) ?_
          apply Exists.intro
          refine ⟨fun vs x hR hF K hK => ?_, ?_⟩
          · have f11 := hF 10 _ _ rfl rfl; have f19 := hF 2 _ _ rfl rfl; have f21 := hF 0 _ _ rfl rfl; clear hF
            go_simp
            exact hK _ _ (Grow.refl _) rfl
          refine Plan.det 24 rfl (Grow.refl) ?_
          apply Exists.intro
          refine ⟨fun vs x hR hF K hK => ?_, ?_⟩
          · have f11 := hF 11 _ _ rfl rfl; have f22 := hF 0 _ _ rfl rfl; clear hF
            go_simp
            exact hK _ _ (Grow.refl _) rfl
          refine Plan.det 25 rfl (Grow.refl) ?_
          apply Exists.intro
          refine ⟨fun vs x hR hF K hK => ?_, ?_⟩
          · have f11 := hF 12 _ _ rfl rfl; have f23 := hF 0 _ _ rfl rfl; clear hF
            go_simp
            exact hK _ _ (Grow.refl _) rfl
          refine Plan.det 26 rfl (Grow.refl) ?_
          apply Exists.intro
          refine ⟨fun vs x hR hF K hK => ?_, ?_⟩
          · have f24 := hF 0 _ _ rfl rfl; clear hF
            go_simp
            exact hK _ _ (Grow.refl _) rfl
          refine Plan.det 27 rfl (Grow.refl) ?_
          apply Exists.intro
          refine ⟨fun vs x hR hF K hK => ?_, ?_⟩
          · have f24 := hF 1 _ _ rfl rfl; have f25 := hF 0 _ _ rfl rfl; clear hF
            go_simp
            exact hK _ _ (Grow.refl _) rfl
          refine Plan.det 28 rfl (Grow.refl) ?_
          apply Exists.intro
          refine ⟨fun vs x hR hF K hK => ?_, ?_⟩
          · have f24 := hF 2 _ _ rfl rfl; have f26 := hF 0 _ _ rfl rfl; clear hF
            go_simp
            exact hK _ _ (Grow.refl _) rfl
          refine Plan.det 29 rfl (Grow.refl) ?_
          apply Exists.intro
          refine ⟨fun vs x hR hF K hK => ?_, ?_⟩
          · have f24 := hF 3 _ _ rfl rfl; have f27 := hF 0 _ _ rfl rfl; have hc := HC.out x hR; clear hF
            go_simp
            exact hK _ _ (Grow.refl _) rfl
          refine Plan.det 30 rfl (Grow.refl) ?_
          apply Exists.intro
          refine ⟨fun vs x hR hF K hK => ?_, ?_⟩
          · have f24 := hF 4 _ _ rfl rfl; clear hF
            go_simp
            exact hK _ _ (Grow.refl _) rfl
          refine Plan.det 31 rfl (Grow.refl) ?_
          apply Exists.intro
          refine ⟨fun vs x hR hF K hK => ?_, ?_⟩
          · have f24 := hF 5 _ _ rfl rfl; have f28 := hF 1 _ _ rfl rfl; have f29 := hF 0 _ _ rfl rfl; clear hF
            go_simp
            exact hK _ _ (Grow.refl _) rfl
          refine Plan.det 32 rfl (Grow.refl) ?_
          apply Exists.intro
          refine ⟨fun vs x hR hF K hK => ?_, ?_⟩
          · have f24 := hF 6 _ _ rfl rfl; have f30 := hF 0 _ _ rfl rfl; clear hF
            go_simp
            exact hK _ _ (Grow.refl _) rfl
          refine Plan.det 33 rfl (Grow.refl) ?_
          apply Exists.intro
          refine ⟨fun vs x hR hF K hK => ?_, ?_⟩
          · have f24 := hF 7 _ _ rfl rfl; have f31 := hF 0 _ _ rfl rfl; have hc := HC.out x hR; clear hF
            go_simp
            exact hK _ _ (Grow.refl _) rfl
          refine Plan.det 34 rfl (Grow.refl) ?_
          apply Exists.intro
          refine ⟨fun vs x hR hF K hK => ?_, ?_⟩
          · have f24 := hF 8 _ _ rfl rfl; clear hF
            go_simp
            exact hK _ _ (Grow.refl _) rfl
          refine Plan.det 35 rfl (Grow.refl) ?_
          apply Exists.intro
          refine ⟨fun vs x hR hF K hK => ?_, ?_⟩
          · have f24 := hF 9 _ _ rfl rfl; have f33 := hF 0 _ _ rfl rfl; have hc := HC.out x hR; clear hF
            go_simp
            exact hK _ _ (Grow.refl _) rfl
          refine Plan.det 36 rfl (Grow.refl) ?_
          apply Exists.intro
          refine ⟨fun vs x hR hF K hK => ?_, ?_⟩
          · have f24 := hF 10 _ _ rfl rfl; have f32 := hF 2 _ _ rfl rfl; have f34 := hF 0 _ _ rfl rfl; clear hF
            go_simp
            exact hK _ _ (Grow.refl _) rfl
          refine Plan.det 37 rfl (Grow.refl) ?_
          apply Exists.intro
          refine ⟨fun vs x hR hF K hK => ?_, ?_⟩
          · have f24 := hF 11 _ _ rfl rfl; have f35 := hF 0 _ _ rfl rfl; clear hF
            go_simp
            exact hK _ _ (Grow.refl _) rfl
          refine Plan.nil (fun vs x hR hF => ?_)
          have f0 := hF 36 _ _ rfl; have f1 := hF 35 _ _ rfl; have f2 := hF 34 _ _ rfl; have f3 := hF 33 _ _ rfl; have f4 := hF 32 _ _ rfl; have f5 := hF 31 _ _ rfl; have f6 := hF 30 _ _ rfl; have f7 := hF 29 _ _ rfl; have f8 := hF 28 _ _ rfl; have f9 := hF 27 _ _ rfl; have f10 := hF 26 _ _ rfl; have f11 := hF 25 _ _ rfl; have f12 := hF 24 _ _ rfl; have f13 := hF 23 _ _ rfl; have f14 := hF 22 _ _ rfl; have f15 := hF 21 _ _ rfl; have f16 := hF 20 _ _ rfl; have f17 := hF 19 _ _ rfl; have f18 := hF 18 _ _ rfl; have f19 := hF 17 _ _ rfl; have f20 := hF 16 _ _ rfl; have f21 := hF 15 _ _ rfl; have f22 := hF 14 _ _ rfl; have f23 := hF 13 _ _ rfl; have f24 := hF 12 _ _ rfl; have f25 := hF 11 _ _ rfl; have f26 := hF 10 _ _ rfl; have f27 := hF 9 _ _ rfl; have f28 := hF 8 _ _ rfl; have f29 := hF 7 _ _ rfl; have f30 := hF 6 _ _ rfl; have f31 := hF 5 _ _ rfl; have f32 := hF 4 _ _ rfl; have f33 := hF 3 _ _ rfl; have f34 := hF 2 _ _ rfl; have f35 := hF 1 _ _ rfl; have f36 := hF 0 _ _ rfl
          clear hF
          simp only [f0, f1, f2, f3, f4, f5, f6, f7, f8, f9, f10, f11, f12, f13, f14, f15, f16, f17, f18, f19, f20, f21, f22, f23, f24, f25, f26, f27, f28, f29, f30, f31, f32, f33, f34, f35, f36]
          clear f0 f1 f2 f3 f4 f5 f6 f7 f8 f9 f10 f11 f12 f13 f14 f15 f16 f17 f18 f19 f20 f21 f22 f23 f24 f25 f26 f27 f28 f29 f30 f31 f32 f33 f34 f35 f36
          simp only [List.drop_succ_cons, List.drop_zero]
          have HB2 := hid (HBW.out.trans ((grow_below hR).mono HBW.out.size))
          clear HC hR q0 q1
          go_wp2_with fail
          refine ⟨⟨k + 1, by omega, by go_num, HNE.out HNX.out, HB2.out⟩, ?_⟩
          simp [intOf] <;> omega
      · obtain ⟨bb, hbb⟩ : ∃ bb, bb = decide (y2 = sp) := ⟨_, rfl⟩
        rw [← hbb] at HSS
        have HBB := hid hbb
        clear hbb
        go_wp2_with fail
        refine wp_region_inv 37 (Grow) (by kernel_rfl) (by kernel_rfl) (Grow.refl) (fun _ _ _ => Grow.trans) ?_
        simp only [fill, dstOf, Act.put, List.take_succ_cons, List.take_zero, List.getElem?_toArray, List.getElem?_cons_zero, List.getElem?_cons_succ, Option.bind_some, List.setIfInBounds_toArray, List.set_cons_zero, List.set_cons_succ]
        refine Plan.det 1 rfl (Grow.refl) ?_
        apply Exists.intro
        refine ⟨fun vs x hR hF K hK => ?_, ?_⟩
        · clear hF
          go_simp
          exact hK _ _ (Grow.refl _) rfl
        refine Plan.det 2 rfl (Grow.refl) ?_
        apply Exists.intro
        refine ⟨fun vs x hR hF K hK => ?_, ?_⟩
        · have f0 := hF 0 _ _ rfl rfl; clear hF
          go_simp
          exact hK _ _ (Grow.refl _) rfl
        refine Plan.det 3 rfl (Grow.refl) ?_
        apply Exists.intro
        refine ⟨fun vs x hR hF K hK => ?_, ?_⟩
        · have f1 := hF 0 _ _ rfl rfl; clear hF
          go_simp
          exact hK _ _ (Grow.refl _) rfl
        refine Plan.det 4 rfl (Grow.refl) ?_
        apply Exists.intro
        refine ⟨fun vs x hR hF K hK => ?_, ?_⟩
        · have f2 := hF 0 _ _ rfl rfl; have hc := HC.out x hR; clear hF
          go_simp
          exact hK _ _ (Grow.refl _) rfl
        refine Plan.det 5 rfl (Grow.refl) ?_
        apply Exists.intro
        refine ⟨fun vs x hR hF K hK => ?_, ?_⟩
        · clear hF
          go_simp
          exact hK _ _ (Grow.refl _) rfl
        refine Plan.det 6 rfl (Grow.refl) ?_
        apply Exists.intro
        refine ⟨fun vs x hR hF K hK => ?_, ?_⟩
        · have f3 := hF 1 _ _ rfl rfl; have f4 := hF 0 _ _ rfl rfl; clear hF
          go_simp
          exact hK _ _ (Grow.refl _) rfl
        refine Plan.det 7 rfl (Grow.refl) ?_
        apply Exists.intro
        refine ⟨fun vs x hR hF K hK => ?_, ?_⟩
        · have f5 := hF 0 _ _ rfl rfl; clear hF
          go_simp
          exact hK _ _ (Grow.refl _) rfl
        refine Plan.det 8 rfl (Grow.refl) ?_
        apply Exists.intro
        refine ⟨fun vs x hR hF K hK => ?_, ?_⟩
        · have f6 := hF 0 _ _ rfl rfl; have hc := HC.out x hR; clear hF
          go_simp
          exact hK _ _ (Grow.refl _) rfl
        refine Plan.det 9 rfl (Grow.refl) ?_
        apply Exists.intro
        refine ⟨fun vs x hR hF K hK => ?_, ?_⟩
        · clear hF
          go_simp
          exact hK _ _ (Grow.refl _) rfl
        refine Plan.det 10 rfl (Grow.refl) ?_
        apply Exists.intro
        refine ⟨fun vs x hR hF K hK => ?_, ?_⟩
        · have f8 := hF 0 _ _ rfl rfl; have hc := HC.out x hR; clear hF
          go_simp
          exact hK _ _ (Grow.refl _) rfl
        refine Plan.det 11 rfl (Grow.refl) ?_
        apply Exists.intro
        refine ⟨fun vs x hR hF K hK => ?_, ?_⟩
        · have f7 := hF 2 _ _ rfl rfl; have f9 := hF 0 _ _ rfl rfl; clear hF
          go_simp
          exact hK _ _ (Grow.refl _) rfl
        refine Plan.det 12 rfl (Grow.refl) ?_
        apply Exists.intro
        refine ⟨fun vs x hR hF K hK => ?_, ?_⟩
        · have f10 := hF 0 _ _ rfl rfl; clear hF
          go_simp
          exact hK _ _ (Grow.refl _) rfl
        refine Plan.det 13 rfl (Grow.refl) ?_
        apply Exists.intro
        refine ⟨fun vs x hR hF K hK => ?_, ?_⟩
        · have f11 := hF 0 _ _ rfl rfl; clear hF
          go_simp
          exact hK _ _ (Grow.refl _) rfl
        refine Plan.det 14 rfl (Grow.refl) ?_
        apply Exists.intro
        refine ⟨fun vs x hR hF K hK => ?_, ?_⟩
        · have f11 := hF 1 _ _ rfl rfl; have f12 := hF 0 _ _ rfl rfl; clear hF
          go_simp
          exact hK _ _ (Grow.refl _) rfl
        refine Plan.det 15 rfl (Grow.refl) ?_
        apply Exists.intro
        refine ⟨fun vs x hR hF K hK => ?_, ?_⟩
        · have f11 := hF 2 _ _ rfl rfl; have f13 := hF 0 _ _ rfl rfl; clear hF
          go_simp
          exact hK _ _ (Grow.refl _) rfl
        refine Plan.det 16 rfl (Grow.refl) ?_
        apply Exists.intro
        refine ⟨fun vs x hR hF K hK => ?_, ?_⟩
        · have f11 := hF 3 _ _ rfl rfl; have f14 := hF 0 _ _ rfl rfl; have hc := HC.out x hR; clear hF
          go_simp
          exact hK _ _ (Grow.refl _) rfl
        refine Plan.det 17 rfl (Grow.refl) ?_
        apply Exists.intro
        refine ⟨fun vs x hR hF K hK => ?_, ?_⟩
        · have f11 := hF 4 _ _ rfl rfl; clear hF
          go_simp
          exact hK _ _ (Grow.refl _) rfl
        refine Plan.det 18 rfl (Grow.refl) ?_
        apply Exists.intro
        refine ⟨fun vs x hR hF K hK => ?_, ?_⟩
        · have f11 := hF 5 _ _ rfl rfl; have f15 := hF 1 _ _ rfl rfl; have f16 := hF 0 _ _ rfl rfl; clear hF
          go_simp
          exact hK _ _ (Grow.refl _) rfl
        refine Plan.det 19 rfl (Grow.refl) ?_
        apply Exists.intro
        refine ⟨fun vs x hR hF K hK => ?_, ?_⟩
        · have f11 := hF 6 _ _ rfl rfl; have f17 := hF 0 _ _ rfl rfl; clear hF
          go_simp
          exact hK _ _ (Grow.refl _) rfl
        refine Plan.det 20 rfl (Grow.refl) ?_
        apply Exists.intro
        refine ⟨fun vs x hR hF K hK => ?_, ?_⟩
        · have f11 := hF 7 _ _ rfl rfl; have f18 := hF 0 _ _ rfl rfl; have hc := HC.out x hR; clear hF
          go_simp
          exact hK _ _ (Grow.refl _) rfl
        refine Plan.det 21 rfl (Grow.refl) ?_
        apply Exists.intro
        refine ⟨fun vs x hR hF K hK => ?_, ?_⟩
        · have f11 := hF 8 _ _ rfl rfl; clear hF
          go_simp
          exact hK _ _ (Grow.refl _) rfl
        refine Plan.det 22 rfl (Grow.refl) ?_
        apply Exists.intro
        refine ⟨fun vs x hR hF K hK => ?_, ?_⟩
        · have f11 := hF 9 _ _ rfl rfl; have f20 := hF 0 _ _ rfl rfl; have hc := HC.out x hR; clear hF
          go_simp
          exact hK _ _ (Grow.refl _) rfl
        refine Plan.det 23 rfl (Grow.refl) ?_
        apply Exists.intro
        refine ⟨fun vs x hR hF K hK => ?_, ?_⟩
        · have f11 := hF 10 _ _ rfl rfl; have f19 := hF 2 _ _ rfl rfl; have f21 := hF 0 _ _ rfl rfl; clear hF
          go_simp
          exact hK _ _ (Grow.refl _) rfl
        refine Plan.det 24 rfl (Grow.refl) ?_
        apply Exists.intro
        refine ⟨fun vs x hR hF K hK => ?_, ?_⟩
        · have f11 := hF 11 _ _ rfl rfl; have f22 := hF 0 _ _ rfl rfl; clear hF
          go_simp
          exact hK _ _ (Grow.refl _) rfl
        refine Plan.det 25 rfl (Grow.refl) ?_
        apply Exists.intro
        refine ⟨fun vs x hR hF K hK => ?_, ?_⟩
        · have f11 := hF 12 _ _ rfl rfl; have f23 := hF 0 _ _ rfl rfl; clear hF
          go_simp
          exact hK _ _ (Grow.refl _) rfl
        refine Plan.det 26 rfl (Grow.refl) ?_
        apply Exists.intro
        refine ⟨fun vs x hR hF K hK => ?_, ?_⟩
        · have f24 := hF 0 _ _ rfl rfl; clear hF
          go_simp
          exact hK _ _ (Grow.refl _) rfl
        refine Plan.det 27 rfl (Grow.refl) ?_
        apply Exists.intro
        refine ⟨fun vs x hR hF K hK => ?_, ?_⟩
        · have f24 := hF 1 _ _ rfl rfl; have f25 := hF 0 _ _ rfl rfl; clear hF
          go_simp
          exact hK _ _ (Grow.refl _) rfl
        refine Plan.det 28 rfl (Grow.refl) ?_
        apply Exists.intro
        refine ⟨fun vs x hR hF K hK => ?_, ?_⟩
        · have f24 := hF 2 _ _ rfl rfl; have f26 := hF 0 _ _ rfl rfl; clear hF
          go_simp
          exact hK _ _ (Grow.refl _) rfl
        refine Plan.det 29 rfl (Grow.refl) ?_
        apply Exists.intro
        refine ⟨fun vs x hR hF K hK => ?_, ?_⟩
        · have f24 := hF 3 _ _ rfl rfl; have f27 := hF 0 _ _ rfl rfl; have hc := HC.out x hR; clear hF
          go_simp
          exact hK _ _ (Grow.refl _) rfl
        refine Plan.det 30 rfl (Grow.refl) ?_
        apply Exists.intro
        refine ⟨fun vs x hR hF K hK => ?_, ?_⟩
        · have f24 := hF 4 _ _ rfl rfl; clear hF
          go_simp
          exact hK _ _ (Grow.refl _) rfl
        refine Plan.det 31 rfl (Grow.refl) ?_
        apply Exists.intro
        refine ⟨fun vs x hR hF K hK => ?_, ?_⟩
        · have f24 := hF 5 _ _ rfl rfl; have f28 := hF 1 _ _ rfl rfl; have f29 := hF 0 _ _ rfl rfl; clear hF
          go_simp
          exact hK _ _ (Grow.refl _) rfl
        refine Plan.det 32 rfl (Grow.refl) ?_
        apply Exists.intro
        refine ⟨fun vs x hR hF K hK => ?_, ?_⟩
        · have f24 := hF 6 _ _ rfl rfl; have f30 := hF 0 _ _ rfl rfl; clear hF
          go_simp
          exact hK _ _ (Grow.refl _) rfl
        refine Plan.det 33 rfl (Grow.refl) ?_
        apply Exists.intro
        refine ⟨fun vs x hR hF K hK => ?_, ?_⟩
        · have f24 := hF 7 _ _ rfl rfl; have f31 := hF 0 _ _ rfl rfl; have hc := HC.out x hR; clear hF
          go_simp
          exact hK _ _ (Grow.refl _) rfl
        refine Plan.det 34 rfl (Grow.refl) ?_
        apply Exists.intro
        refine ⟨fun vs x hR hF K hK => ?_, ?_⟩
        · have f24 := hF 8 _ _ rfl rfl; clear hF
          go_simp
          exact hK _ _ (Grow.refl _) rfl
        refine Plan.det 35 rfl (Grow.refl) ?_
        apply Exists.intro
        refine ⟨fun vs x hR hF K hK => ?_, ?_⟩
        · have f24 := hF 9 _ _ rfl rfl; have f33 := hF 0 _ _ rfl rfl; have hc := HC.out x hR; clear hF
          go_simp
          exact hK _ _ (Grow.refl _) rfl
        refine Plan.det 36 rfl (Grow.refl) ?_
        apply Exists.intro
        refine ⟨fun vs x hR hF K hK => ?_, ?_⟩
        · have f24 := hF 10 _ _ rfl rfl; have f32 := hF 2 _ _ rfl rfl; have f34 := hF 0 _ _ rfl rfl; clear hF
          go_simp
          refine (HSS.out x hR).mono ?_
          rintro e x1 ⟨rfl, hbe⟩
          exact ⟨_, rfl, hK _ _ hbe rfl⟩
        refine Plan.det 37 rfl (Grow.refl) ?_
        apply Exists.intro
        refine ⟨fun vs x hR hF K hK => ?_, ?_⟩
        · have f24 := hF 11 _ _ rfl rfl; have f35 := hF 0 _ _ rfl rfl; clear hF
          go_simp
          exact hK _ _ (Grow.refl _) rfl
        refine Plan.nil (fun vs x hR hF => ?_)
        have f0 := hF 36 _ _ rfl; have f1 := hF 35 _ _ rfl; have f2 := hF 34 _ _ rfl; have f3 := hF 33 _ _ rfl; have f4 := hF 32 _ _ rfl; have f5 := hF 31 _ _ rfl; have f6 := hF 30 _ _ rfl; have f7 := hF 29 _ _ rfl; have f8 := hF 28 _ _ rfl; have f9 := hF 27 _ _ rfl; have f10 := hF 26 _ _ rfl; have f11 := hF 25 _ _ rfl; have f12 := hF 24 _ _ rfl; have f13 := hF 23 _ _ rfl; have f14 := hF 22 _ _ rfl; have f15 := hF 21 _ _ rfl; have f16 := hF 20 _ _ rfl; have f17 := hF 19 _ _ rfl; have f18 := hF 18 _ _ rfl; have f19 := hF 17 _ _ rfl; have f20 := hF 16 _ _ rfl; have f21 := hF 15 _ _ rfl; have f22 := hF 14 _ _ rfl; have f23 := hF 13 _ _ rfl; have f24 := hF 12 _ _ rfl; have f25 := hF 11 _ _ rfl; have f26 := hF 10 _ _ rfl; have f27 := hF 9 _ _ rfl; have f28 := hF 8 _ _ rfl; have f29 := hF 7 _ _ rfl; have f30 := hF 6 _ _ rfl; have f31 := hF 5 _ _ rfl; have f32 := hF 4 _ _ rfl; have f33 := hF 3 _ _ rfl; have f34 := hF 2 _ _ rfl; have f35 := hF 1 _ _ rfl; have f36 := hF 0 _ _ rfl
        clear hF
        simp only [f0, f1, f2, f3, f4, f5, f6, f7, f8, f9, f10, f11, f12, f13, f14, f15, f16, f17, f18, f19, f20, f21, f22, f23, f24, f25, f26, f27, f28, f29, f30, f31, f32, f33, f34, f35, f36]
        clear f0 f1 f2 f3 f4 f5 f6 f7 f8 f9 f10 f11 f12 f13 f14 f15 f16 f17 f18 f19 f20 f21 f22 f23 f24 f25 f26 f27 f28 f29 f30 f31 f32 f33 f34 f35 f36
        simp only [List.drop_succ_cons, List.drop_zero]
        have HB2 := hid (HBW.out.trans ((grow_below hR).mono HBW.out.size))
        clear HC hR q0 q1 HSS
        cases bb with
        | true =>
          go_wp2_with fail
          go_ret
          have h1 := of_decide_eq_true HBB.out.symm
          have h2 := HMEM.out
          rw [h1] at h2
          exact ⟨ret_bool (decide_eq_true h2).symm, HB1.out.trans (HB2.out.mono (by simp))⟩
        | false =>
          go_wp2_with fail
          refine ⟨⟨k + 1, by omega, by go_num, HNE.out (fun e => ?_), HB2.out⟩, ?_⟩
          · injection e with e1 e2
            injection e2 with e2 e3
            exact of_decide_eq_false HBB.out.symm e3
          · simp [intOf] <;> omega
    · obtain rfl : k = n := by omega
      have hltI : ¬ (k : Int) < (k : Int) := by omega
      have HBW := hid hbw
      clear hbw
      go_wp2_with fail
      go_ret
      refine ⟨ret_bool (decide_eq_false ?_).symm, HB1.out.trans (HBW.out.mono (by simp))⟩
      intro hm
      obtain ⟨j, hj, hje⟩ := List.getElem_of_mem hm
      exact HX.out.1 j hj (by have := HNN.out; omega) hje
end Go.Proofs.Ythnpbopnpdlmnaa

/- A region that draws its order and holds one call, for which all that comes before it is needed, and whose last operation stores what the call handed back. Nothing here speaks of the program. -/
namespace Go.Proofs.Ythnpbopnpdlmnaa
open Go.RowKit

section
variable {P : Program} {ops : Array Oper} {Q : Exit → Act → World → Prop}

end
end Go.Proofs.Ythnpbopnpdlmnaa
