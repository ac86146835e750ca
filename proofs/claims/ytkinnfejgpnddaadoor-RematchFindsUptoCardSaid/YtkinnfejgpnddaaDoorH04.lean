/- The reference of the parses: equal spans, a list with another parse, a sorted list. -/
import Derived.Test.YtkinnfejgpnddaaDoorH03
import Derived.Test.YtkinnfejgpnddaaDoorH01
import Derived.MapKept
import Derived.Laws.StructEq
namespace Go.Proofs.YtkinnfejgpnddaaDoor
open Go.RowKit
attribute [local go_sem] gives givesUpon

theorem run_eqIn_span (a b c d : Int) (x : World) : (Op.equalIn 10000 46 (.agg #[.int .i64 a, .int .i64 b]) (.agg #[.int .i64 c, .int .i64 d])).run Tryd.prog x = .ok (decide (a = c ∧ b = d)) x := by
  have hf : (Tryd.prog.fieldsOf 46).toList = [{ name := "From", type := 3, offset := 0, embedded := false, tag := "", pkgPath := "", byteOffset := 0 }, { name := "To", type := 3, offset := 1, embedded := false, tag := "", pkgPath := "", byteOffset := 8 }] := by kernel_rfl
  have key : decide (a = c ∧ b = d) = ((a == c) && (b == d)) := by
    rw [Bool.eq_iff_iff]
    simp only [decide_eq_true_eq, Bool.and_eq_true, beq_iff_eq]
  rw [key, run_equalIn_agg _ 9999 46 _ _ (by kernel_rfl) (by kernel_rfl), hf]
  simp [Op.eqFields, go_sem]
  by_cases h1 : a = c <;> by_cases h2 : b = d <;> simp [h1, h2]
set_option maxRecDepth 100000 in
set_option maxHeartbeats 8000000 in
theorem SameSpansQ_any (w : World) (v v' : Value) (l l' : Spans) (h : SpQ w v l) (h' : SpQ w v' l') (hl : l.length ≤ 1000) (_hl' : l'.length ≤ 1000) :
    Calls Tryd.prog 21 #[v, v'] w fun e w' => e = .returned (.bool (decide (l = l'))) ∧ Below w.heap.size w w' := by
  obtain ⟨a, c, rfl⟩ := h.form
  obtain ⟨a', c', rfl⟩ := h'.form
  by_cases hlen : l.length = l'.length
  · have HL := hid hlen
    obtain ⟨n, hn⟩ : ∃ n, n = l.length := ⟨_, rfl⟩
    have hn' : n = l'.length := hn.trans hlen
    have hn9 : n ≤ 1000 := by omega
    have H1 := hid h
    have H2 := hid h'
    have HN := hid hn
    have HN' := hid hn'
    rw [← hn, ← hn']
    clear hlen h h' hn hn' hl
    go_enter Tryd.func21, Tryd.ntmps21
    go_wp2_with fail
    go_loopw [5] (fun v wr => ∃ k : Nat, k ≤ n ∧ v = .int .i64 k ∧ Hid (∀ j, j < k → l[j]? = l'[j]?) ∧ Hid (Below w.heap.size w wr)) (fun v _ => n - (intOf v).toNat)
    case atStart => exact ⟨0, Nat.zero_le _, rfl, fun j hj => by omega, Below.refl _ _⟩
    case round =>
      obtain ⟨k, hk, rfl, HE, HB⟩ := hrel
      by_cases hlt : k < n
      · have hltI : (k : Int) < (n : Int) := by omega
        have hk1 : k < l.length := by have := HN.out; omega
        have hk2 : k < l'.length := by have := HN'.out; omega
        obtain ⟨a1, cc, e, hh⟩ := H1.out
        rcases hh with h0 | ⟨b, more, e1, hr⟩
        · rw [h0] at hk1; simp at hk1
        obtain ⟨a2, cc', e', hh⟩ := H2.out
        rcases hh with h0 | ⟨b', more', e2, hr'⟩
        · rw [h0] at hk2; simp at hk2
        subst e1; subst e2
        injection e with e1 e3 e4
        injection e' with e2 e5 e6
        clear e3 e4 e5 e6
        subst e1; subst e2
        have hx := spc_get l k l[k] (by simp [hk1])
        have hx' := spc_get l' k l'[k] (by simp [hk2])
        have r1 := hr.below HB.out hr.lt
        have r2 := hr'.below HB.out hr'.lt
        have s1 := spc_length l
        have s2 := spc_length l'
        have p0 := r1.cell (k * 2)
        have p1 := r1.cell (k * 2 + 1)
        have p2 := r2.cell (k * 2)
        have p3 := r2.cell (k * 2 + 1)
        rw [List.getElem?_append_left (by omega), show k * 2 = 2 * k by omega, hx.1, show 2 * k = k * 2 by omega] at p0
        rw [List.getElem?_append_left (by omega), show k * 2 + 1 = 2 * k + 1 by omega, hx.2, show 2 * k + 1 = k * 2 + 1 by omega] at p1
        rw [List.getElem?_append_left (by omega), show k * 2 = 2 * k by omega, hx'.1, show 2 * k = k * 2 by omega] at p2
        rw [List.getElem?_append_left (by omega), show k * 2 + 1 = 2 * k + 1 by omega, hx'.2, show 2 * k + 1 = k * 2 + 1 by omega] at p3
        have HK1 : Hid (l[k]? = some l[k]) := by show _ = _; simp [hk1]
        have HK2 : Hid (l'[k]? = some l'[k]) := by show _ = _; simp [hk2]
        clear hr hr' s1 s2 hx hx'
        generalize l[k] = x at *
        generalize l'[k] = y at *
        obtain ⟨x1, x2⟩ := x
        obtain ⟨y1, y2⟩ := y
        dsimp only at p0 p1 p2 p3
        have HC0 := hid (⟨p0, p1, p2, p3, r1.lt, r2.lt⟩ : _ ∧ _ ∧ _ ∧ _ ∧ _ ∧ _)
        have HC := hid (fun (x : World) (hx : Grow wr.drew x) => (⟨((grow_below hx).cell (p := ⟨b, k * 2, none⟩) HC0.out.2.2.2.2.1).trans HC0.out.1, ((grow_below hx).cell (p := ⟨b, k * 2 + 1, none⟩) HC0.out.2.2.2.2.1).trans HC0.out.2.1, ((grow_below hx).cell (p := ⟨b', k * 2, none⟩) HC0.out.2.2.2.2.2).trans HC0.out.2.2.1, ((grow_below hx).cell (p := ⟨b', k * 2 + 1, none⟩) HC0.out.2.2.2.2.2).trans HC0.out.2.2.2.1⟩ : _ ∧ _ ∧ _ ∧ _))
        have heq := run_eqIn_span x1 x2 y1 y2
        clear r1 r2 p0 p1 p2 p3
        by_cases hxy : x1 = y1 ∧ x2 = y2
        · rw [decide_eq_true hxy] at heq
          have HXY := hid hxy
          clear hxy
          go_wp2_with fail
          refine wp_region_inv 9 (Grow) (by kernel_rfl) (by kernel_rfl) (Grow.refl) (fun _ _ _ => Grow.trans) ?_
          simp only [fill, dstOf, Act.put, List.take_succ_cons, List.take_zero, List.getElem?_toArray, List.getElem?_cons_zero, List.getElem?_cons_succ, Option.bind_some, List.setIfInBounds_toArray, List.set_cons_zero, List.set_cons_succ]
          refine Plan.det 1 rfl (Grow.refl) ?_
          apply Exists.intro
          refine ⟨fun vs x hR hF K hK => ?_, ?_⟩
          · clear hF
            go_simp
            exact hK _ _ (Grow.refl _) rfl
          refine Plan.det 2 rfl (Grow.refl) ?_
          apply Exists.intro
          refine ⟨fun vs x hR hF K hK => ?_, ?_⟩
          · clear hF
            go_simp
            exact hK _ _ (Grow.refl _) rfl
          refine Plan.det 3 rfl (Grow.refl) ?_
          apply Exists.intro
          refine ⟨fun vs x hR hF K hK => ?_, ?_⟩
          · have f0 := hF 1 _ _ rfl rfl; have f1 := hF 0 _ _ rfl rfl; clear hF
            go_simp
            exact hK _ _ (Grow.refl _) rfl
          refine Plan.det 4 rfl (Grow.refl) ?_
          apply Exists.intro
          refine ⟨fun vs x hR hF K hK => ?_, ?_⟩
          · have f2 := hF 0 _ _ rfl rfl; have hc := HC.out x hR; clear hF
            go_simp
            exact hK _ _ (Grow.refl _) rfl
          refine Plan.det 5 rfl (Grow.refl) ?_
          apply Exists.intro
          refine ⟨fun vs x hR hF K hK => ?_, ?_⟩
          · clear hF
            go_simp
            exact hK _ _ (Grow.refl _) rfl
          refine Plan.det 6 rfl (Grow.refl) ?_
          apply Exists.intro
          refine ⟨fun vs x hR hF K hK => ?_, ?_⟩
          · clear hF
            go_simp
            exact hK _ _ (Grow.refl _) rfl
          refine Plan.det 7 rfl (Grow.refl) ?_
          apply Exists.intro
          refine ⟨fun vs x hR hF K hK => ?_, ?_⟩
          · have f4 := hF 1 _ _ rfl rfl; have f5 := hF 0 _ _ rfl rfl; clear hF
            go_simp
            exact hK _ _ (Grow.refl _) rfl
          refine Plan.det 8 rfl (Grow.refl) ?_
          apply Exists.intro
          refine ⟨fun vs x hR hF K hK => ?_, ?_⟩
          · have f6 := hF 0 _ _ rfl rfl; have hc := HC.out x hR; clear hF
            go_simp
            exact hK _ _ (Grow.refl _) rfl
          refine Plan.det 9 rfl (Grow.refl) ?_
          apply Exists.intro
          refine ⟨fun vs x hR hF K hK => ?_, ?_⟩
          · have f3 := hF 4 _ _ rfl rfl; have f7 := hF 0 _ _ rfl rfl; clear hF
            go_simp
            exact hK _ _ (Grow.refl _) rfl
          refine Plan.nil (fun vs x hR hF => ?_)
          have f0 := hF 8 _ _ rfl; have f1 := hF 7 _ _ rfl; have f2 := hF 6 _ _ rfl; have f3 := hF 5 _ _ rfl; have f4 := hF 4 _ _ rfl; have f5 := hF 3 _ _ rfl; have f6 := hF 2 _ _ rfl; have f7 := hF 1 _ _ rfl; have f8 := hF 0 _ _ rfl
          clear hF
          simp only [f0, f1, f2, f3, f4, f5, f6, f7, f8]
          clear f0 f1 f2 f3 f4 f5 f6 f7 f8
          simp only [List.drop_succ_cons, List.drop_zero]
          have HBX := hid (HB.out.trans ((grow_below hR).mono HB.out.size))
          clear HC hR
          go_wp2_with fail
          refine ⟨⟨k + 1, by omega, by go_num, fun j hj => ?_, HBX.out⟩, ?_⟩
          · rcases Nat.lt_or_ge j k with h | h
            · exact HE.out j h
            · have : j = k := by omega
              subst this
              rw [HK1.out, HK2.out, HXY.out.1, HXY.out.2]
          · simp [intOf]; omega
        · rw [decide_eq_false hxy] at heq
          have HXY := hid hxy
          clear hxy
          go_wp2_with fail
          refine wp_region_inv 9 (Grow) (by kernel_rfl) (by kernel_rfl) (Grow.refl) (fun _ _ _ => Grow.trans) ?_
          simp only [fill, dstOf, Act.put, List.take_succ_cons, List.take_zero, List.getElem?_toArray, List.getElem?_cons_zero, List.getElem?_cons_succ, Option.bind_some, List.setIfInBounds_toArray, List.set_cons_zero, List.set_cons_succ]
          refine Plan.det 1 rfl (Grow.refl) ?_
          apply Exists.intro
          refine ⟨fun vs x hR hF K hK => ?_, ?_⟩
          · clear hF
            go_simp
            exact hK _ _ (Grow.refl _) rfl
          refine Plan.det 2 rfl (Grow.refl) ?_
          apply Exists.intro
          refine ⟨fun vs x hR hF K hK => ?_, ?_⟩
          · clear hF
            go_simp
            exact hK _ _ (Grow.refl _) rfl
          refine Plan.det 3 rfl (Grow.refl) ?_
          apply Exists.intro
          refine ⟨fun vs x hR hF K hK => ?_, ?_⟩
          · have f0 := hF 1 _ _ rfl rfl; have f1 := hF 0 _ _ rfl rfl; clear hF
            go_simp
            exact hK _ _ (Grow.refl _) rfl
          refine Plan.det 4 rfl (Grow.refl) ?_
          apply Exists.intro
          refine ⟨fun vs x hR hF K hK => ?_, ?_⟩
          · have f2 := hF 0 _ _ rfl rfl; have hc := HC.out x hR; clear hF
            go_simp
            exact hK _ _ (Grow.refl _) rfl
          refine Plan.det 5 rfl (Grow.refl) ?_
          apply Exists.intro
          refine ⟨fun vs x hR hF K hK => ?_, ?_⟩
          · clear hF
            go_simp
            exact hK _ _ (Grow.refl _) rfl
          refine Plan.det 6 rfl (Grow.refl) ?_
          apply Exists.intro
          refine ⟨fun vs x hR hF K hK => ?_, ?_⟩
          · clear hF
            go_simp
            exact hK _ _ (Grow.refl _) rfl
          refine Plan.det 7 rfl (Grow.refl) ?_
          apply Exists.intro
          refine ⟨fun vs x hR hF K hK => ?_, ?_⟩
          · have f4 := hF 1 _ _ rfl rfl; have f5 := hF 0 _ _ rfl rfl; clear hF
            go_simp
            exact hK _ _ (Grow.refl _) rfl
          refine Plan.det 8 rfl (Grow.refl) ?_
          apply Exists.intro
          refine ⟨fun vs x hR hF K hK => ?_, ?_⟩
          · have f6 := hF 0 _ _ rfl rfl; have hc := HC.out x hR; clear hF
            go_simp
            exact hK _ _ (Grow.refl _) rfl
          refine Plan.det 9 rfl (Grow.refl) ?_
          apply Exists.intro
          refine ⟨fun vs x hR hF K hK => ?_, ?_⟩
          · have f3 := hF 4 _ _ rfl rfl; have f7 := hF 0 _ _ rfl rfl; clear hF
            go_simp
            exact hK _ _ (Grow.refl _) rfl
          refine Plan.nil (fun vs x hR hF => ?_)
          have f0 := hF 8 _ _ rfl; have f1 := hF 7 _ _ rfl; have f2 := hF 6 _ _ rfl; have f3 := hF 5 _ _ rfl; have f4 := hF 4 _ _ rfl; have f5 := hF 3 _ _ rfl; have f6 := hF 2 _ _ rfl; have f7 := hF 1 _ _ rfl; have f8 := hF 0 _ _ rfl
          clear hF
          simp only [f0, f1, f2, f3, f4, f5, f6, f7, f8]
          clear f0 f1 f2 f3 f4 f5 f6 f7 f8
          simp only [List.drop_succ_cons, List.drop_zero]
          have HBX := hid (HB.out.trans ((grow_below hR).mono HB.out.size))
          clear HC hR
          go_wp2_with fail
          go_ret
          refine ⟨ret_bool ?_, HBX.out⟩
          rw [decide_eq_false]
          intro e
          have h1 := HK1.out
          rw [e, HK2.out] at h1
          injection h1 with h1
          injection h1 with h1 h2
          exact HXY.out ⟨h1.symm, h2.symm⟩
      · have hltI : ¬ (k : Int) < (n : Int) := by omega
        go_wp2_with fail
        go_ret
        refine ⟨ret_bool ?_, HB.out⟩
        rw [decide_eq_true]
        apply List.ext_getElem?
        intro j
        rcases Nat.lt_or_ge j n with h | h
        · exact HE.out j (by omega)
        · rw [List.getElem?_eq_none (by have := HN.out; omega), List.getElem?_eq_none (by have := HN'.out; omega)]
  · have d1 : ((l.length : Int) != (l'.length : Int)) = true := by simp; omega
    have HL := hid hlen
    clear hlen
    go_enter Tryd.func21, Tryd.ntmps21
    go_wp2_with fail
    go_ret
    exact ⟨ret_bool (by rw [decide_eq_false]; intro e; exact HL.out (by rw [e])), Below.refl _ _⟩

/-- What a list with another parse comes to. -/
def AddPost (w : World) (base : Nat) (v : Value) (l : List Parse) (e : Ending) (w' : World) : Prop :=
  ∃ a c, e = .returned (.slice a l.length c) ∧ OwnP w' base (.slice a l.length c) l ∧ w.grownBy w' v.ownBlock ∧ (∀ g, (Value.slice a l.length c).ownBlock = some g → v.ownBlock = some g ∨ w.heap.size ≤ g)
set_option maxRecDepth 100000 in
set_option maxHeartbeats 8000000 in
theorem radd_any (w : World) (base : Nat) (v sv : Value) (l : List Parse) (end_ : Nat) (sp : Spans) (hown : OwnP w base v l) (hsp : SpQ w sv sp) (hn : l.length ≤ 100000) (hbase : base ≤ w.heap.size) (hN : ∀ q, q ∈ (end_, sp) :: l → q.2.length ≤ 9 ∧ q.1 ≤ 1000000) :
    Calls Tryd.prog 47 #[v, .int .i64 end_, sv] w (AddPost w base v (addP l (end_, sp))) := by
  obtain ⟨a, c, rfl⟩ := hown.form
  obtain ⟨sa, sc, rfl⟩ := hsp.form
  have HS := hid hsp
  have HN := hid hN
  obtain ⟨n, hnn⟩ : ∃ n, n = l.length := ⟨_, rfl⟩
  have HNN := hid hnn
  have hn2 : n ≤ 100000 := by omega
  have hown' : OwnP w base (.slice a n c) l := by rw [hnn]; exact hown
  have HO := hid hown'
  rw [← hnn]
  clear hown hown' hsp hN hnn hn
  go_enter Tryd.func47, Tryd.ntmps47
  go_wp2_with fail
  go_loopw [7] (fun v wr => ∃ k : Nat, k ≤ n ∧ v = .int .i64 k ∧ Hid (∀ j (hj : j < l.length), j < k → l[j] ≠ (end_, sp)) ∧ Hid (Below w.heap.size w wr)) (fun v _ => n - (intOf v).toNat)
  case atStart => exact ⟨0, Nat.zero_le _, rfl, fun j _ hj => by omega, Below.refl _ _⟩
  case round =>
    obtain ⟨k, hk, rfl, HE, HB⟩ := hrel
    by_cases hlt : k < n
    · have hltI : (k : Int) < (n : Int) := by omega
      have hkl : k < l.length := by have := HNN.out; omega
      obtain ⟨b, c', q1, q2, sa', sc', hq, ev, hbl, -, -, p0, p1, hsq⟩ := (HO.out.psq.below HB.out).get hkl
      injection ev with e1 e2 e3
      subst e1; subst e3
      clear e2
      have HSQ := hid hsq
      have hmem : (q1, q2) ∈ l := List.mem_of_getElem? hq
      have HQ : Hid (q2.length ≤ 9 ∧ q1 ≤ 1000000) := HN.out (q1, q2) (List.mem_cons_of_mem _ hmem)
      have HMEM := hid hmem
      have HNE : Hid (∀ j (hj : j < l.length), j < k + 1 → l[j] = (q1, q2) ∨ l[j] ≠ (end_, sp)) := fun j hj h => by
        rcases Nat.lt_or_ge j k with h1 | h1
        · exact .inr (HE.out j hj h1)
        · left
          have : j = k := by omega
          subst this
          rw [List.getElem?_eq_getElem hj] at hq
          exact Option.some.inj hq
      clear hsq hmem hq
      by_cases hqe : q1 = end_
      · subst hqe
        go_wp2_with fail
        refine (SameSpansQ_any wr _ _ q2 sp HSQ.out (HS.out.below HB.out) (by have := HQ.out; omega) (by have := (HN.out _ (List.mem_cons_self)).1; dsimp only at this; omega)).mono ?_
        rintro e w1 ⟨rfl, hb1⟩
        have HB1 := hid (HB.out.trans (hb1.mono HB.out.size))
        clear hb1 p0 p1
        by_cases hs : q2 = sp
        · subst hs
          rw [decide_eq_true rfl]
          go_wp2_with fail
          go_ret
          have hadd : addP l (q1, q2) = l := by unfold addP; rw [if_pos HMEM.out]
          rw [hadd]
          have h1 := HO.out.below HB1.out
          have h2 : ∀ g, (Value.slice (some ⟨b, 0, none⟩) n c).ownBlock = some g → (Value.slice (some ⟨b, 0, none⟩) n c).ownBlock = some g ∨ w.heap.size ≤ g := fun g hg => .inl hg
          have h3 : w.grownBy w1 (Value.slice (some ⟨b, 0, none⟩) n c).ownBlock := ⟨HB1.out.os, HB1.out.tape, HB1.out.output, HB1.out.size, fun k hk _ => HB1.out.block k hk⟩
          have hn := HNN.out
          subst hn
          exact ⟨_, _, rfl, h1, h3, h2⟩
        · rw [decide_eq_false hs]
          have HSN := hid hs
          clear hs
          go_wp2_with fail
          refine ⟨⟨k + 1, by omega, by go_num, fun j hj h => ?_, HB1.out⟩, ?_⟩
          · rcases HNE.out j hj h with h1 | h1
            · rw [h1]; intro e; injection e with e1 e2; exact HSN.out e2
            · exact h1
          · simp [intOf]; omega
      · have d1 : ((q1 : Int) == (end_ : Int)) = false := by simp; omega
        have HQN := hid hqe
        clear hqe
        go_wp2_with fail
        refine ⟨⟨k + 1, by omega, by go_num, fun j hj h => ?_, HB.out⟩, ?_⟩
        · rcases HNE.out j hj h with h1 | h1
          · rw [h1]; intro e; injection e with e1 e2; exact HQN.out e1
          · exact h1
        · simp [intOf]; omega
    · obtain rfl : k = n := by omega
      have hnm : (end_, sp) ∉ l := by
        intro hm
        obtain ⟨j, hj, hje⟩ := List.getElem_of_mem hm
        exact HE.out j hj (by have := HNN.out; omega) hje
      have hadd : Hid (addP l (end_, sp) = l ++ [(end_, sp)]) := by show _ = _; unfold addP; rw [if_neg hnm]
      clear hnm hlt
      go_wp2_with (at_builtin; refine wpList_append_ps rfl _ _ rfl base _ l [(end_, sp)] _ _ rfl ?c0 rfl (PsQ.lit (Row.new rfl) ?c1) ?c2 ?c3 ?_)
      case c0 => have := (HO.out.below HB.out).below ((Below.refl _ _).alloc (Nat.le_refl _) (.cells #[.int .i64 end_, .slice sa sp.length sc] 48)); exact this
      case c1 => exact (HS.out.below HB.out).below ((Below.refl _ _).alloc (Nat.le_refl _) _)
      case c2 => have := HNN.out; simp; omega
      case c3 => have := HB.out.size; simp; omega
      intro a2 n2 c2 w3 hn2 hown hgrow hnw
      have HOO := hid hown
      have HN2 := hid hn2
      have HGG := hid (grownBy_below (HB.out.trans (((Below.refl _ _).alloc (Nat.le_refl _) _).mono HB.out.size)) hgrow)
      have HNW := hid (fun g hg => (hnw g hg).imp id fun h => Nat.le_trans (by have := HB.out.size; simp; omega) h : ∀ g, (Value.slice a2 n2 c2).ownBlock = some g → (Value.slice a k c).ownBlock = some g ∨ w.heap.size ≤ g)
      clear hown hgrow hnw hn2
      go_wp2_with fail
      go_ret
      have hh := HN2.out
      subst hh
      have hlen : (l ++ [(end_, sp)]).length = l.length + 1 := by simp
      unfold AddPost
      rw [hadd.out, hlen]
      exact ⟨_, _, rfl, HOO.out, HGG.out, HNW.out⟩
end Go.Proofs.YtkinnfejgpnddaaDoor

/- The reference of the parses: a sorted list. -/
namespace Go.Proofs.YtkinnfejgpnddaaDoor
open Go.RowKit
attribute [local go_sem] gives givesUpon

/-- The ends from c on, greater ones first. -/
def cls (L c : Nat) (l : List Parse) : List Parse := (List.range' c (L + 1 - c)).reverse.flatMap fun e => l.filter fun q => q.1 == e
theorem cls_zero (L : Nat) (l : List Parse) : cls L 0 l = sortP L l := by unfold cls sortP; rw [List.range_eq_range']; rfl
theorem cls_top (L : Nat) (l : List Parse) : cls L (L + 1) l = [] := by unfold cls; simp
theorem cls_step {L c : Nat} (l : List Parse) (h : c ≤ L) : cls L c l = cls L (c + 1) l ++ l.filter fun q => q.1 == c := by
  unfold cls
  rw [show L + 1 - c = (L + 1 - (c + 1)) + 1 by omega, List.range'_succ, List.reverse_cons, List.flatMap_append]
  simp
theorem filter_step (l : List Parse) (f : Parse → Bool) {k : Nat} {q : Parse} (h : l[k]? = some q) : (l.take (k + 1)).filter f = (l.take k).filter f ++ if f q then [q] else [] := by
  rw [List.take_add_one, h, List.filter_append]
  cases hf : f q <;> simp [hf]
theorem cls_length {L c : Nat} (l : List Parse) : (cls L c l).length ≤ l.length := by
  unfold cls
  suffices h : ∀ es : List Nat, es.Nodup → (es.flatMap fun e => l.filter fun q => q.1 == e).length ≤ l.length from h _ (List.pairwise_reverse.2 ((List.nodup_range' (step := 1)).imp fun h e => h e.symm))
  intro es
  induction es generalizing l with
  | nil => intro _; simp
  | cons e es ih =>
    intro h
    rw [List.nodup_cons] at h
    rw [List.flatMap_cons, List.length_append]
    have h1 := ih (l.filter fun q => !(q.1 == e)) h.2
    have h2 : (es.flatMap fun e' => (l.filter fun q => !(q.1 == e)).filter fun q => q.1 == e') = es.flatMap fun e' => l.filter fun q => q.1 == e' := by
      refine flatMap_same fun e' he' => ?_
      rw [List.filter_filter]
      refine List.filter_congr fun q _ => ?_
      by_cases hq : q.1 = e'
      · have : e' ≠ e := fun e1 => h.1 (e1 ▸ he')
        simp [hq, this]
      · simp [hq]
    rw [h2] at h1
    have := filter_split (fun q : Parse => q.1 == e) l
    omega

/-- What the outer loop keeps. -/
def SortL (w : World) (L : Nat) (l : List Parse) (c : Nat) (more : List Parse) (a : Option Addr) (n cc : Nat) (wr : World) : Prop :=
  n = (cls L c l ++ more).length ∧ OwnP wr w.heap.size (.slice a n cc) (cls L c l ++ more) ∧ Below w.heap.size w wr
set_option maxRecDepth 100000 in
set_option maxHeartbeats 8000000 in
theorem rsorted_any (w : World) (p : Nat → Prop) (v : Value) (l : List Parse) (L : Nat) (h : PsQ p w v l) (hn : l.length ≤ 100000) (hL : L ≤ 1000000) :
    Calls Tryd.prog 71 #[v, .int .i64 L] w fun e w' => ∃ a c, e = .returned (.slice a (sortP L l).length c) ∧ Below w.heap.size w w' ∧ PsQ (w.heap.size ≤ ·) w' (.slice a (sortP L l).length c) (sortP L l) := by
  obtain ⟨va, vc, rfl⟩ := h.form
  obtain ⟨n, hnn⟩ : ∃ n, n = l.length := ⟨_, rfl⟩
  have hn2 : n ≤ 100000 := by omega
  have HNN := hid hnn
  rw [← hnn] at h ⊢
  have HP := hid h
  clear h hnn hn
  go_enter Tryd.func71, Tryd.ntmps71
  go_wp2_with fail
  go_loopw [5, 6] (fun v5 v6 wr => ∃ (c : Nat) (J : Int) (a : Option Addr) (m cc : Nat), v5 = .slice a m cc ∧ v6 = .int .i64 J ∧ J = (c : Int) - 1 ∧ c ≤ L + 1 ∧ Hid (SortL w L l c [] a m cc wr)) (fun _ v6 _ => (intOf v6 + 1).toNat)
  case atStart =>
    exact ⟨L + 1, (L : Int), none, 0, 0, rfl, rfl, by omega, Nat.le_refl _, by rw [cls_top]; rfl, by rw [cls_top]; exact OwnP.nil _ _, Below.refl _ _⟩
  case round =>
    obtain ⟨c, J, a, m, cc, rfl, rfl, hJ, hc, HS⟩ := hrel
    cases c with
    | zero =>
      have hJ0 : ¬ (0 : Int) ≤ J := by omega
      have d0 : decide ((0 : Int) ≤ J) = false := by simp; omega
      clear hJ
      go_wp2_with fail
      go_ret
      obtain ⟨h1, h2, h3⟩ := HS.out
      rw [List.append_nil, cls_zero] at h1 h2
      subst h1
      exact ⟨a, cc, rfl, h3, h2.psq.mono fun b _ hb => hb.1⟩
    | succ e =>
      obtain rfl : J = (e : Int) := by omega
      have hJ0 : (0 : Int) ≤ (e : Int) := by omega
      have he : e ≤ L := by omega
      have hwe : IntKind.i64.wrap ((e : Int) - 1) = (e : Int) - 1 := by rw [IntKind.wrap_i64]; omega
      clear hJ hc
      go_wp2_with fail
      go_loopw [5, 7] (fun v5 v7 wr => ∃ (k : Nat) (a : Option Addr) (m cc : Nat), v5 = .slice a m cc ∧ v7 = .int .i64 k ∧ k ≤ n ∧ Hid (SortL w L l (e + 1) ((l.take k).filter fun q => q.1 == e) a m cc wr)) (fun _ v7 _ => n - (intOf v7).toNat)
      case atStart =>
        exact ⟨0, a, m, cc, rfl, rfl, Nat.zero_le _, by show SortL _ _ _ _ _ _ _ _ _; simpa using HS.out⟩
      case round =>
        obtain ⟨k, a, m, cc, rfl, rfl, hk, HS⟩ := hrel
        by_cases hlt : k < n
        · have hltI : (k : Int) < (n : Int) := by omega
          have hkl : k < l.length := by have := HNN.out; omega
          obtain ⟨h1, h2, h3⟩ := HS.out
          have HB := hid h3
          have hsz := h3.size
          obtain ⟨b, c', q1, q2, sa', sc', hq, ev, hbl, -, hbr, p0, p1, hsq⟩ := (HP.out.of (q := p) (fun _ _ hr => hr.below h3 hr.lt) fun _ _ hp hr => ⟨hr.below h3 hr.lt, hp⟩ : PsQ p wr _ l).get hkl
          injection ev with e1 e2 e3
          subst e1; subst e3
          clear e2
          have HSQ := hid hsq
          have HST : Hid (∀ x : Bool, x = (q1 == e) → ((l.take (k + 1)).filter fun q => q.1 == e) = ((l.take k).filter fun q => q.1 == e) ++ if x then [(q1, q2)] else []) := fun x hx => by rw [filter_step l _ hq, hx]
          have HOWN := hid (⟨h1, h2⟩ : _ ∧ _)
          clear h1 h2 h3 hsq hq
          by_cases hqe : q1 = e
          · subst hqe
            go_wp2_with (at_builtin; refine wpList_append_ps rfl _ _ rfl w.heap.size _ (cls L (q1 + 1) l ++ ((l.take k).filter fun q => q.1 == q1)) [(q1, q2)] _ _ rfl ?c0 rfl (PsQ.lit (Row.new rfl) ?c1) ?c2 ?c3 ?_)
            case c0 => exact HOWN.out.2.below ((Below.refl _ _).alloc (Nat.le_refl _) _)
            case c1 => exact HSQ.out.below ((Below.refl _ _).alloc (Nat.le_refl _) _)
            case c2 =>
              have g1 := cls_length (L := L) (c := q1 + 1) l
              have g2 := List.length_filter_le (fun q : Parse => q.1 == q1) (l.take k)
              have := HNN.out
              rw [List.length_take] at g2
              simp only [List.length_append, List.length_cons, List.length_nil]
              omega
            case c3 => simp; omega
            intro a2 n2 c2 w3 hn2' hown hgrow hnw
            have HZ : Hid (SortL w L l (q1 + 1) ((l.take (k + 1)).filter fun q => q.1 == q1) a2 n2 c2 w3) := by
              have h5 := HST.out true (by simp)
              refine ⟨?_, ?_, (HB.out.alloc hsz _).grown hgrow (by simp; omega) fun g hg => (HOWN.out.2.lt g hg).1⟩
              · rw [h5, hn2']; simp
              · rw [h5, if_pos rfl]; first | exact hown | (rw [← List.append_assoc]; exact hown)
            clear hown hgrow hnw hn2' p0 p1
            go_wp2_with fail
            refine ⟨⟨k + 1, a2, n2, c2, rfl, by go_num, by omega, HZ.out⟩, ?_⟩
            simp [intOf] <;> omega
          · have d1 : ((q1 : Int) == (e : Int)) = false := by simp; omega
            have HZ : Hid (SortL w L l (e + 1) ((l.take (k + 1)).filter fun q => q.1 == e) a m cc wr) := by
              have h5 := HST.out false (by simp [hqe])
              exact ⟨by rw [h5]; simpa using HOWN.out.1, by rw [h5]; simpa using HOWN.out.2, HB.out⟩
            clear hqe
            go_wp2_with fail
            refine ⟨⟨k + 1, a, m, cc, rfl, by go_num, by omega, HZ.out⟩, ?_⟩
            simp [intOf] <;> omega
        · obtain rfl : k = n := by omega
          have hltI : ¬ (k : Int) < (k : Int) := by omega
          have HZ : Hid (SortL w L l e [] a m cc wr) := by
            have h5 := HS.out
            rw [HNN.out, List.take_length] at h5
            unfold SortL
            rw [List.append_nil, cls_step l he]
            exact h5
          go_wp2_with fail
          refine ⟨⟨e, (e : Int) - 1, a, m, cc, rfl, rfl, rfl, by omega, HZ.out⟩, ?_⟩
          simp [intOf] <;> omega

/-- The list and whether it is one; none: too many. -/
def RetP (w : World) (r : Option (List Parse)) (e : Ending) (w' : World) : Prop :=
  ∃ a n c, e = .returned (.tuple #[.slice a n c, .bool r.isSome]) ∧ Below w.heap.size w w' ∧ (∀ l, r = some l → n = l.length ∧ PsQ (w.heap.size ≤ ·) w' (.slice a n c) l) ∧ (r = none → a = none ∧ n = 0 ∧ c = 0)
set_option maxRecDepth 100000 in
set_option maxHeartbeats 8000000 in
theorem rdone_any (w : World) (p : Nat → Prop) (v : Value) (l l0 : List Parse) (s : ByteArray) (lines : Bool) (hl : l = nub l0) (h : PsQ p w v l) (hn : l.length ≤ 100000) (hL : s.size ≤ 1000000) :
    Calls Tryd.prog 55 #[.agg #[.string s, .bool lines], v] w (RetP w (fin s.size l0)) := by
  obtain ⟨va, vc, rfl⟩ := h.form
  have hB : Below w.heap.size w (w.alloc (.cells #[.string s, .bool lines] 70)) := (Below.refl _ _).alloc (Nat.le_refl _) _
  have HB := hid hB
  have HF : Hid (fin s.size l0 = if most < l.length then none else some (sortP s.size l)) := by show _ = _; unfold fin; rw [hl]
  have HS := hid (rsorted_any (w.alloc (.cells #[.string s, .bool lines] 70)) p _ l s.size (h.below hB) hn hL)
  obtain ⟨n, hnn⟩ : ∃ n, n = l.length := ⟨_, rfl⟩
  have HNN := hid hnn
  rw [← hnn] at HS HF ⊢
  clear h hnn hB
  go_enter Tryd.func55, Tryd.ntmps55
  by_cases hm : 4096 < n
  · have hmI : (4096 : Int) < (n : Int) := by omega
    have HM := hid hm
    clear hm
    go_wp2_with fail
    go_ret2
    rw [HF.out, if_pos (show most < n from HM.out)]
    exact ⟨none, 0, 0, rfl, HB.out, fun l h => (by cases h), fun _ => ⟨rfl, rfl, rfl⟩⟩
  · have hmI : ¬ (4096 : Int) < (n : Int) := by omega
    have HM := hid hm
    clear hm
    go_wp2_with fail
    refine HS.out.mono ?_
    rintro e w1 ⟨a, c, rfl, hb, hp⟩
    have HP := hid (⟨hb, hp⟩ : _ ∧ _)
    clear hb hp HS
    obtain ⟨m, hm⟩ : ∃ m, m = (sortP s.size l).length := ⟨_, rfl⟩
    rw [← hm] at HP ⊢
    have HMM := hid hm
    clear hm
    go_wp2_with fail
    go_ret2
    rw [HF.out, if_neg (show ¬ most < n from HM.out)]
    refine ⟨a, m, c, rfl, HB.out.trans (HP.out.1.mono (by simp)), fun l' hl' => ?_, fun h => (by cases h)⟩
    have := Option.some.inj hl'
    subst this
    exact ⟨HMM.out, HP.out.2.mono fun b _ hb => by simp at hb; omega⟩
end Go.Proofs.YtkinnfejgpnddaaDoor

/- The reference of the parses: spans with another one, spans without those of groups. -/
namespace Go.Proofs.YtkinnfejgpnddaaDoor
open Go.RowKit
attribute [local go_sem] gives givesUpon

theorem SpQ.get {w : World} {v : Value} {sp : Spans} (h : SpQ w v sp) {k : Nat} (hk : k < sp.length) : ∃ (b c : Nat) (x1 x2 : Int), sp[k]? = some (x1, x2) ∧ v = .slice (some ⟨b, 0, none⟩) sp.length c ∧ b < w.heap.size ∧ (∃ cs, Row w b cs 46) ∧ w.cell? ⟨b, k * 2, none⟩ = some (.int .i64 x1) ∧ w.cell? ⟨b, k * 2 + 1, none⟩ = some (.int .i64 x2) := by
  obtain ⟨a, c, e, h1 | ⟨b, more, h1, h2⟩⟩ := h
  · rw [h1] at hk; simp at hk
  · subst h1
    have hx := spc_get sp k sp[k] (by simp [hk])
    have hl := spc_length sp
    refine ⟨b, c, sp[k].1, sp[k].2, by simp [hk], e, h2.lt, ⟨_, h2⟩, ?_, ?_⟩
    · rw [h2.cell, List.getElem?_append_left (by omega), show k * 2 = 2 * k by omega, hx.1]
    · rw [h2.cell, List.getElem?_append_left (by omega), show k * 2 + 1 = 2 * k + 1 by omega, hx.2]
theorem SpQ.lit {w : World} {b : Nat} {x1 x2 : Int} (hr : Row w b [.int .i64 x1, .int .i64 x2] 46) : SpQ w (.slice (some ⟨b, 0, none⟩) 1 1) [(x1, x2)] := ⟨_, _, rfl, .inr ⟨b, [], rfl, by simpa [spc] using hr⟩⟩
theorem OwnSp.nil (w : World) (base : Nat) : OwnSp w base (.slice none 0 0) [] := ⟨fun _ => rfl, World.ownsRow_nil _ _ _ _⟩
theorem OwnSp.lt {w : World} {base : Nat} {v : Value} {l : Spans} (h : OwnSp w base v l) : ∀ g, v.ownBlock = some g → base ≤ g ∧ g < w.heap.size := World.ownsRow.lt h.2
/-- append of spans to spans of one's own, as an operation. -/
theorem wpList_append_sp {ops : Array Oper} {rest : List Oper} {o : Oper} {a : Act} {w : World} {Q : Exit → Act → World → Prop} (hgd : o.guard = none) (s x : Operand)
    (ho : o.op = .call { callee := .builtin .append, args := #[s, x], argTypes := #[39, 39] }) (base : Nat) (v : Value) (l m : Spans) (u : Value) (hs : a.eval s = v) (hown : OwnSp w base v l) (hx : a.eval x = u) (hsrc : SpQ w u m) (hm : m ≠ [])
    (hsz : l.length + m.length ≤ 1000000) (hbase : base ≤ w.heap.size)
    (h : ∀ a' n' c' w', n' = (l ++ m).length → OwnSp w' base (.slice a' n' c') (l ++ m) → w.grownBy w' v.ownBlock → (∀ g, (Value.slice a' n' c').ownBlock = some g → v.ownBlock = some g ∨ w.heap.size ≤ g) → wpList Tryd.prog ops Q rest (a.put o.dst (.slice a' n' c')) w') : wpList Tryd.prog ops Q (o :: rest) a w := by
  obtain ⟨i0, hi, hz0, hz1, hz2⟩ := info_parts info_span
  obtain ⟨sa, c, rfl, h1 | ⟨b, more, rfl, hr⟩⟩ := hsrc
  · exact absurd h1 hm
  · refine wpList_append_row hgd s x 39 ho base 46 i0 (.agg #[.int .i64 0, .int .i64 0]) 2 16 Tryd.underlying39 hi hz0 hz1 hz2 rfl (by decide) v l.length (spc l) hs hown.2 ⟨b, 0, none⟩ m.length c (spc m) hx (spc_length m) ?_ (spc_one m) (by unfold maxLen; omega) (by omega) hbase (List.length_pos_iff.2 hm) fun a' c' w' g1 g2 g3 => ?_
    · intro j u hj
      rw [Addr.add_lit, Nat.zero_add, hr.cell j]
      exact List.getElem?_append_left (List.getElem?_eq_some_iff.1 hj).1 ▸ hj
    · exact h a' _ c' w' (List.length_append).symm (OwnSp.app hm g1 rfl) g2 g3

set_option maxRecDepth 100000 in
set_option maxHeartbeats 8000000 in
theorem rwith_any (w : World) (sv : Value) (sp : Spans) (g : Nat) (i k : Int) (hsp : SpQ w sv sp) (hl : sp.length ≤ 9) (hg : 1 ≤ g ∧ g ≤ 9) :
    Calls Tryd.prog 51 #[sv, .int .i64 g, .int .i64 i, .int .i64 k] w fun e w' => ∃ a c, e = .returned (.slice a sp.length c) ∧ Below w.heap.size w w' ∧ SpQ w' (.slice a sp.length c) (sp.set (g - 1) (i, k)) := by
  obtain ⟨sa, sc, rfl⟩ := hsp.form
  obtain ⟨n, hnn⟩ : ∃ n, n = sp.length := ⟨_, rfl⟩
  have hn9 : n ≤ 9 := by omega
  have HNN := hid hnn
  rw [← hnn] at hsp ⊢
  have HS := hid hsp
  have hwg : IntKind.i64.wrap ((g : Int) - 1) = (g : Int) - 1 := by rw [IntKind.wrap_i64]; omega
  clear hsp hl hnn
  go_enter Tryd.func51, Tryd.ntmps51
  go_wp2_with fail
  go_loopw [9, 10] (fun v9 v10 wr => ∃ (j : Nat) (a : Option Addr) (m c : Nat), v9 = .slice a m c ∧ v10 = .int .i64 j ∧ j ≤ n ∧ Hid (m = j ∧ OwnSp wr w.heap.size (.slice a m c) ((sp.set (g - 1) (i, k)).take j) ∧ Below w.heap.size w wr)) (fun _ v10 _ => n - (intOf v10).toNat)
  case atStart => exact ⟨0, none, 0, 0, rfl, rfl, Nat.zero_le _, rfl, OwnSp.nil _ _, Below.refl _ _⟩
  case round =>
    obtain ⟨j, a, m, c, rfl, rfl, hj, HX⟩ := hrel
    by_cases hlt : j < n
    · have hltI : (j : Int) < (n : Int) := by omega
      obtain ⟨h0, h1, h2⟩ := HX.out
      obtain ⟨b, cc, x1, x2, hq, ev, hb, -, p0, p1⟩ := (HS.out.of (fun _ _ hr => hr.below h2 hr.lt) : SpQ wr _ sp).get (k := j) (by have := HNN.out; omega)
      injection ev with e1 e2 e3
      subst e1; subst e3
      clear e2
      have HO := hid (⟨h0, h1, h2⟩ : _ ∧ _ ∧ _)
      have hsz := h2.size
      have HT : Hid (∀ y, (sp.set (g - 1) (i, k))[j]? = some y → (sp.set (g - 1) (i, k)).take (j + 1) = (sp.set (g - 1) (i, k)).take j ++ [y]) := fun y hy => by rw [List.take_add_one, hy]; rfl
      have HQ := hid hq
      clear h0 h1 h2 hq
      by_cases hjg : j = g - 1
      · have d1 : ((j : Int) == (g : Int) - 1) = true := by simp; omega
        have HJG := hid hjg
        clear hjg
        go_wp2_with (at_builtin; refine wpList_append_sp rfl _ _ rfl w.heap.size _ ((sp.set (g - 1) (i, k)).take j) [(i, k)] _ rfl ?c0 rfl (SpQ.lit (Row.new (by simp))) (by simp) ?c2 ?c3 ?_)
        case c0 => exact HO.out.2.1.below (((Below.refl _ _).alloc (Nat.le_refl _) _).alloc (by simp) _)
        case c2 => simp; omega
        case c3 => simp; omega
        intro a2 n2 c2 w3 hn2 hown hgrow hnw
        have HZ : Hid (n2 = j + 1 ∧ OwnSp w3 w.heap.size (.slice a2 n2 c2) ((sp.set (g - 1) (i, k)).take (j + 1)) ∧ Below w.heap.size w w3) := by
          have hy := HT.out (i, k) (by rw [HJG.out, List.getElem?_set_self (by have := HNN.out; have := HJG.out; omega)])
          refine ⟨?_, by rw [hy]; exact hown, ((HO.out.2.2.alloc hsz _).alloc (by simp; omega) _).grown hgrow (by simp; omega) fun g hg => (HO.out.2.1.lt g hg).1⟩
          have := HNN.out
          rw [hn2]; simp; omega
        clear hown hgrow hnw hn2 p0 p1
        go_wp2_with fail
        refine ⟨⟨j + 1, a2, n2, c2, rfl, by go_num, by omega, HZ.out⟩, ?_⟩
        simp [intOf] <;> omega
      · have d1 : ((j : Int) == (g : Int) - 1) = false := by simp; omega
        have HJG := hid hjg
        clear hjg
        go_wp2_with (at_builtin; refine wpList_append_sp rfl _ _ rfl w.heap.size _ ((sp.set (g - 1) (i, k)).take j) [(x1, x2)] _ rfl ?c0 rfl (SpQ.lit (Row.new (by simp))) (by simp) ?c2 ?c3 ?_)
        case c0 => exact HO.out.2.1.below (((Below.refl _ _).alloc (Nat.le_refl _) _).alloc (by simp) _)
        case c2 => simp; omega
        case c3 => simp; omega
        intro a2 n2 c2 w3 hn2 hown hgrow hnw
        have HZ : Hid (n2 = j + 1 ∧ OwnSp w3 w.heap.size (.slice a2 n2 c2) ((sp.set (g - 1) (i, k)).take (j + 1)) ∧ Below w.heap.size w w3) := by
          have hy := HT.out (x1, x2) (by rw [List.getElem?_set_ne (fun e => HJG.out e.symm), HQ.out])
          refine ⟨?_, by rw [hy]; exact hown, ((HO.out.2.2.alloc hsz _).alloc (by simp; omega) _).grown hgrow (by simp; omega) fun g hg => (HO.out.2.1.lt g hg).1⟩
          have := HNN.out
          rw [hn2]; simp; omega
        clear hown hgrow hnw hn2 p0 p1
        go_wp2_with fail
        refine ⟨⟨j + 1, a2, n2, c2, rfl, by go_num, by omega, HZ.out⟩, ?_⟩
        simp [intOf] <;> omega
    · obtain rfl : j = n := by omega
      have hltI : ¬ (j : Int) < (j : Int) := by omega
      go_wp2_with fail
      go_ret
      obtain ⟨rfl, h1, h2⟩ := HX.out
      rw [List.take_of_length_le (by rw [List.length_set]; exact Nat.le_of_eq HNN.out.symm)] at h1
      exact ⟨a, c, rfl, h2, h1.q⟩
end Go.Proofs.YtkinnfejgpnddaaDoor

/- Maps from keys to true, as sets: what a look-up gives, what a store leaves, how many there are. -/
namespace Go.Proofs.YtkinnfejgpnddaaDoor
open Go.RowKit

section
variable {P : Program} {κ : Type}
/-- Block M is a map from the keys of l to true. -/
def KSet (enc : κ → Value) (w : World) (M : Nat) (l : List κ) : Prop :=
  ∃ es clock, w.heap[M]? = some (.map es clock) ∧ es.toList.map (·.key) = l.map enc ∧ ∀ e, e ∈ es.toList → e.val = .bool true
variable {enc : κ → Value} {w w' : World} {M : Nat} {l : List κ}
theorem KSet.lt (h : KSet enc w M l) : M < w.heap.size := by
  obtain ⟨es, c, h1, _⟩ := h
  rcases Nat.lt_or_ge M w.heap.size with h2 | h2
  · exact h2
  · simp [Array.getElem?_eq_none h2] at h1
theorem KSet.of_block (h : KSet enc w M l) (hb : w'.heap[M]? = w.heap[M]?) : KSet enc w' M l := by
  obtain ⟨es, c, h1, h2⟩ := h
  exact ⟨es, c, hb.trans h1, h2⟩
theorem KSet.but {S : List Nat} (h : KSet enc w M l) (hb : But S w w') (hM : M ∉ S) : KSet enc w' M l := h.of_block (hb.block M h.lt hM)
theorem KSet.below (h : KSet enc w M l) (hb : Below w.heap.size w w') : KSet enc w' M l := h.of_block (hb.block M h.lt)
theorem KSet.new (h : M = w.heap.size) : KSet enc (w.alloc (.map #[] 0)) M [] := by
  subst h
  exact ⟨#[], 0, by show (w.heap.push _)[w.heap.size]? = _; simp, by simp, by simp⟩
theorem KSet.other {B : Nat} (h : KSet enc w M l) (hn : M ≠ B) (j : Nat) (v : Value) : KSet enc (w.setCell ⟨B, j, none⟩ v) M l := h.of_block (Below.heap_setCell _ _ _ _ hn)
theorem KSet.row {T : TypeId} {cs : List Value} (h : KSet enc w M l) (hr : Row w M cs T) : False := by
  obtain ⟨es, c, h1, _⟩ := h
  have h2 : w.heap[M]? = some (.cells cs.toArray T (0, 0)) := hr
  rw [h1] at h2
  cases h2
theorem KSet.run_len (h : KSet enc w M l) (T K E ty : TypeId) (hT : P.underlying T = some (.map K E)) : (Builtin.len_ #[T] ty #[.map (some M)]).run P w = .ok (.int .i64 l.length) w := by
  obtain ⟨es, c, h1, h2, h3⟩ := h
  have hl : es.size = l.length := by
    have := congrArg List.length h2
    simpa using this
  simp [Builtin.len_, run_underlying hT, MapKept.run_getObj_map h1, goInt, hl, Result.andThen]
theorem wpList_len_kset {ops : Array Oper} {rest : List Oper} {o : Oper} {a : Act} {Q : Exit → Act → World → Prop} (hgd : o.guard = none) (x : Operand) (T K E : TypeId) (hT : P.underlying T = some (.map K E)) (ho : o.op = .call { callee := .builtin .len, args := #[x], argTypes := #[T] }) (h : KSet enc w M l)
    (hx : a.eval x = .map (some M)) (hn : wpList P ops Q rest (a.put o.dst (.int .i64 l.length)) w) : wpList P ops Q (o :: rest) a w := by
  refine wpList_plain hgd fun K' hK' => ?_
  unfold Oper.wp
  simp [execOp, ho, resolve, invoke, builtin, hx, h.run_len T K E o.type hT, Result.andThen]
  exact hK' _ _ hn
variable [BEq κ] [LawfulBEq κ]
/-- Keys of a type, as values. -/
structure KeyLaw (P : Program) (K : TypeId) (enc : κ → Value) : Prop where
  check : ∀ (b : Bool) (x : κ) (w : World), (Instr.checkKey b 10000 K (enc x)).run P w = .ok () w
  find : ∀ (x : κ) (es : List MapEntry) (l : List κ) (w : World), es.map (·.key) = l.map enc → ∃ r, (Instr.findKey K (enc x) es).run P w = .ok r w ∧ r.isSome = decide (x ∈ l) ∧ ∀ p, r = some p → ∃ e, e ∈ es ∧ e.val = p.2
theorem KSet.run_lookup (h : KSet enc w M l) (T K E : TypeId) (hT : P.underlying T = some (.map K E)) (hk : KeyLaw P K enc) (hz : (zeroValue E).run P w = .ok (.bool false) w) (x : κ) :
    (Instr.lookup T (.map (some M)) (enc x) false).run P w = .ok (.bool (decide (x ∈ l))) w := by
  obtain ⟨es, c, h1, h2, h3⟩ := h
  obtain ⟨r, h4, h5, h6⟩ := hk.find x es.toList l w h2
  have hck := hk.check es.isEmpty x w
  rw [← h5]
  cases r with
  | none => simp [Instr.lookup, run_underlying hT, MapKept.run_getObj_map h1, hck, h4, hz, Result.andThen]
  | some p =>
    obtain ⟨e, he1, he2⟩ := h6 p rfl
    have := h3 e he1
    rw [he2] at this
    obtain ⟨j, v⟩ := p
    simp only at this
    subst this
    simp [Instr.lookup, run_underlying hT, MapKept.run_getObj_map h1, hck, h4, Result.andThen]
theorem KSet.run_update (h : KSet enc w M l) (T K E : TypeId) (hT : P.underlying T = some (.map K E)) (hk : KeyLaw P K enc) (x : κ) (hx : x ∉ l) :
    ∃ w', (Instr.mapUpdate T (.map (some M)) (enc x) (.bool true)).run P w = .ok () w' ∧ KSet enc w' M (l ++ [x]) ∧ But [M] w w' := by
  have hlt := h.lt
  obtain ⟨es, c, h1, h2, h3⟩ := h
  obtain ⟨r, h4, h5, h6⟩ := hk.find x es.toList l w h2
  have hck := hk.check false x w
  cases r with
  | some p => simp [hx] at h5
  | none =>
    refine ⟨{ w with heap := w.heap.setIfInBounds M (.map (es.push { key := enc x, val := .bool true, born := c }) (c + 1)) }, by simp [Instr.mapUpdate, run_underlying hT, MapKept.run_getObj_map h1, hck, h4, MapKept.run_setObj_map _ h1, Result.andThen], ⟨es.push { key := enc x, val := .bool true, born := c }, c + 1, by simp [hlt], ?_, ?_⟩, ⟨rfl, rfl, rfl, by simp, fun i hi hn => by
      have : M ≠ i := by simpa using Ne.symm (by simpa using hn)
      simp [this]⟩⟩
    · rw [Array.toList_push, List.map_append, h2, List.map_append]
      rfl
    · intro e he
      simp at he
      rcases he with he | he
      · exact h3 e (by simpa using he)
      · subst he; rfl
theorem wpList_lookup_kset {ops : Array Oper} {rest : List Oper} {o : Oper} {a : Act} {Q : Exit → Act → World → Prop} (hgd : o.guard = none) (T : TypeId) (x y : Operand) (ho : o.op = .lookup T x y false) (h : KSet enc w M l)
    (hx : a.eval x = .map (some M)) (k : κ) (hy : a.eval y = enc k) (K E : TypeId) (hT : P.underlying T = some (.map K E)) (hk : KeyLaw P K enc) (hz : (zeroValue E).run P w = .ok (.bool false) w)
    (hn : wpList P ops Q rest (a.put o.dst (.bool (decide (k ∈ l)))) w) : wpList P ops Q (o :: rest) a w := by
  refine wpList_plain hgd fun K' hK' => ?_
  unfold Oper.wp
  simp [execOp, ho, hx, hy, h.run_lookup T K E hT hk hz k, Result.andThen]
  exact hK' _ _ hn
theorem wpList_update_kset {ops : Array Oper} {rest : List Oper} {o : Oper} {a : Act} {Q : Exit → Act → World → Prop} (hgd : o.guard = none) (T : TypeId) (x y z : Operand) (ho : o.op = .mapUpdate T x y z) (h : KSet enc w M l)
    (hx : a.eval x = .map (some M)) (k : κ) (hy : a.eval y = enc k) (hnk : k ∉ l) (hz : a.eval z = .bool true) (K E : TypeId) (hT : P.underlying T = some (.map K E)) (hk : KeyLaw P K enc)
    (hn : ∀ w', KSet enc w' M (l ++ [k]) → But [M] w w' → wpList P ops Q rest (a.put o.dst undef) w') : wpList P ops Q (o :: rest) a w := by
  refine wpList_plain hgd fun K' hK' => ?_
  obtain ⟨w', h1, h2, h3⟩ := h.run_update T K E hT hk k hnk
  unfold Oper.wp
  simp [execOp, ho, hx, hy, hz, h1, Result.andThen]
  exact hK' _ _ (hn w' h2 h3)
/-- A string as a value. -/
def strV (l : List UInt8) : Value := .string ⟨l.toArray⟩
theorem str_beq (a b : List UInt8) : ((⟨a.toArray⟩ : ByteArray) == ⟨b.toArray⟩) = (a == b) := by
  rw [beq_toListBytes, ByteArray.toList_eq, ByteArray.toList_eq]
/-- Strings as keys. -/
theorem findNow_str (s : List UInt8) : ∀ (es : List MapEntry) (l : List (List UInt8)) (i : Nat), es.map (·.key) = l.map strV → ∃ r, Instr.findNow .string (strV s) es i = some r ∧ r.isSome = decide (s ∈ l) ∧ ∀ p, r = some p → ∃ e, e ∈ es ∧ e.val = p.2
  | [], l, i, h => by
    have : l = [] := by simpa using h.symm
    subst this
    exact ⟨none, rfl, rfl, fun _ h => by cases h⟩
  | e :: es, [], i, h => by simp at h
  | e :: es, t :: l, i, h => by
    simp only [List.map_cons, List.cons.injEq] at h
    obtain ⟨h1, h2⟩ := h
    have hsn : Instr.sameNow .string (strV s) e.key = some (s == t) := by rw [h1]; simp only [strV, Instr.sameNow, str_beq]
    by_cases hst : s = t
    · have hb : (s == t) = true := by simp [hst]
      rw [hb] at hsn
      exact ⟨some (i, e.val), by simp only [Instr.findNow, hsn], by simp [hst], fun p hp => ⟨e, by simp, by have := Option.some.inj hp; rw [← this]⟩⟩
    · obtain ⟨r, h3, h4, h5⟩ := findNow_str s es l (i + 1) h2
      have hb : (s == t) = false := by simpa using hst
      rw [hb] at hsn
      refine ⟨r, by simp only [Instr.findNow, hsn, h3], by simp [h4, hst], fun p hp => ?_⟩
      obtain ⟨e', he1, he2⟩ := h5 p hp
      exact ⟨e', by simp [he1], he2⟩
theorem KeyLaw.str {K : TypeId} (hK : P.underlying K = some .string) : KeyLaw P K strV := by
  refine ⟨fun b x w => ?_, fun x es l w h => ?_⟩
  · unfold Instr.checkKey
    simp [run_underlying hK, strV]
  · obtain ⟨r, h1, h2, h3⟩ := findNow_str x es l 0 h
    exact ⟨r, by simp [Instr.findKey, run_underlying hK, h1], h2, h3⟩
theorem findAsk {K : TypeId} (heq : ∀ (x y : κ) (w : World), (Op.equal K (enc x) (enc y)).run P w = .ok (x == y) w) (x : κ) (w : World) : ∀ (es : List MapEntry) (l : List κ) (i : Nat), es.map (·.key) = l.map enc → ∃ r, (Instr.findAsking K (enc x) es i).run P w = .ok r w ∧ r.isSome = decide (x ∈ l) ∧ ∀ p, r = some p → ∃ e, e ∈ es ∧ e.val = p.2
  | [], l, i, h => by
    have : l = [] := by simpa using h.symm
    subst this
    exact ⟨none, rfl, rfl, fun _ h => by cases h⟩
  | e :: es, [], i, h => by simp at h
  | e :: es, t :: l, i, h => by
    simp only [List.map_cons, List.cons.injEq] at h
    obtain ⟨h1, h2⟩ := h
    by_cases hst : x = t
    · subst hst
      exact ⟨some (i, e.val), by simp [Instr.findAsking, h1, heq], by simp, fun p hp => ⟨e, by simp, by have := Option.some.inj hp; rw [← this]⟩⟩
    · obtain ⟨r, h3, h4, h5⟩ := findAsk heq x w es l (i + 1) h2
      refine ⟨r, by simp [Instr.findAsking, h1, heq, hst, h3], by simp [h4, hst], fun p hp => ?_⟩
      obtain ⟨e', he1, he2⟩ := h5 p hp
      exact ⟨e', by simp [he1], he2⟩
end
end Go.Proofs.YtkinnfejgpnddaaDoor
