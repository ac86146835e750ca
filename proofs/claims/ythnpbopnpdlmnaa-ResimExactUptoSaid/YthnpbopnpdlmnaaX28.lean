/- The reference of the parses: spans without those of the groups within a tree. -/
import Derived.Test.YthnpbopnpdlmnaaX27
import Derived.Test.YthnpbopnpdlmnaaX04
import Derived.Deep.Cut
namespace Go.Proofs.Ythnpbopnpdlmnaa
open Go.RowKit
attribute [local go_sem] gives givesUpon

theorem Re.oks_get9 {N : Nat} : ∀ {xs : List Re} (_ : Re.oks N xs) (k : Nat) (h : k < xs.length), xs[k].ok N
  | x :: xs, h, 0, _ => by rw [Re.oks] at h; exact h.1
  | x :: xs, h, k + 1, hk => by rw [Re.oks] at h; exact Re.oks_get9 h.2 k (by simpa using hk)
theorem withinAll_app9 : ∀ a b : List Re, withinAll (a ++ b) = withinAll a ++ withinAll b
  | [], b => by simp [withinAll]
  | x :: a, b => by simp [withinAll, withinAll_app9 a b]
theorem withinAll_step (xs : List Re) (k : Nat) (h : k < xs.length) : withinAll (xs.take (k + 1)) = withinAll (xs.take k) ++ withinOf xs[k] := by
  rw [List.take_add_one, List.getElem?_eq_getElem h, withinAll_app9]
  simp [withinAll]
mutual
theorem within_pos {N : Nat} : ∀ t : Re, t.ok N → ∀ g, g ∈ withinOf t → 1 ≤ g ∧ g ≤ N
  | .mk p xs, h, g, hg => by
    rw [Re.ok] at h
    rw [withinOf] at hg
    rcases List.mem_append.1 hg with hg | hg
    · split at hg
      · rename_i h6
        have := h.2.2.2.1 (.inl h6)
        have e := List.mem_singleton.1 hg
        omega
      · cases hg
    · exact withins_pos xs h.2.2.2.2 g hg
theorem withins_pos {N : Nat} : ∀ xs : List Re, Re.oks N xs → ∀ g, g ∈ withinAll xs → 1 ≤ g ∧ g ≤ N
  | [], _, g, hg => by rw [withinAll] at hg; cases hg
  | x :: xs, h, g, hg => by
    rw [Re.oks] at h
    rw [withinAll] at hg
    rcases List.mem_append.1 hg with hg | hg
    · exact within_pos x h.1 g hg
    · exact withins_pos xs h.2 g hg
end
theorem unset_get : ∀ (gs : List Nat) (sp : Spans) (k : Nat) (x : Int × Int), (∀ g, g ∈ gs → 1 ≤ g) → sp[k]? = some x → (unset sp gs)[k]? = some (if k + 1 ∈ gs then (-1, -1) else x)
  | [], sp, k, x, _, h => by simpa [unset] using h
  | g :: gs, sp, k, x, hg, h => by
    have hg1 := hg g (by simp)
    show (unset (sp.set (g - 1) (-1, -1)) gs)[k]? = _
    have hk : k < sp.length := (List.getElem?_eq_some_iff.1 h).1
    by_cases he : k = g - 1
    · subst he
      rw [unset_get gs _ (g - 1) (-1, -1) (fun g hg' => hg g (by simp [hg'])) (List.getElem?_set_self hk)]
      have : g - 1 + 1 = g := by omega
      simp [this]
    · rw [unset_get gs _ k x (fun g hg' => hg g (by simp [hg'])) (by rw [List.getElem?_set_ne (fun e => he e.symm), h])]
      have : k + 1 ≠ g := by omega
      simp [this]
theorem unset_len (gs : List Nat) : ∀ sp : Spans, (unset sp gs).length = sp.length := by
  induction gs with
  | nil => intro sp; rfl
  | cons g gs ih => intro sp; show (unset (sp.set (g - 1) (-1, -1)) gs).length = _; rw [ih]; simp

set_option maxRecDepth 100000 in
set_option maxHeartbeats 8000000 in
theorem rinner_any (wb : World) (N : Nat) (g : Nat) (t : Re) : ∀ (w : World) (cs : List Value), t.In wb cs → t.ok N → Below wb.heap.size wb w →
    Calls Try.prog 118 #[.agg cs.toArray, .int .i64 g] w fun e w' => e = .returned (.bool (decide (g ∈ withinOf t))) ∧ Below w.heap.size w w' := by
  induction t using Re.ind with
  | h p xs ih =>
    intro w cs hIn hok hbw
    rw [Re.In] at hIn
    obtain ⟨ad, cap, rfl, hwf, hlc, hcm, hnil, hall⟩ := hIn
    rw [Re.ok] at hok
    obtain ⟨-, -, -, hgr, hoks⟩ := hok
    have hml : xs.length ≤ 9223372036854775807 := by unfold maxLen at hcm; omega
    have HIH := hid ih
    have HAL := hid hall
    have HBW := hid hbw
    have HOK := hid hoks
    clear ih hall hwf hbw hoks hcm hlc hnil
    simp only [Pay.cells]
    have q0 := (Row.new (w := w) (cs := [.int .i64 p.op, .int .u64 p.set.a, .int .u64 p.set.b, .int .u64 p.set.c, .int .u64 p.set.d, .int .i64 p.lo, .int .i64 p.hi, .int .i64 p.gr, .slice ad xs.length cap]) (T := 28) rfl).c9
    have HB := hid ((Below.refl w.heap.size w).alloc (Nat.le_refl _) (.cells #[.int .i64 p.op, .int .u64 p.set.a, .int .u64 p.set.b, .int .u64 p.set.c, .int .u64 p.set.d, .int .i64 p.lo, .int .i64 p.hi, .int .i64 p.gr, .slice ad xs.length cap] 28))
    have HRW : Hid (Row (w.alloc (.cells #[.int .i64 p.op, .int .u64 p.set.a, .int .u64 p.set.b, .int .u64 p.set.c, .int .u64 p.set.d, .int .i64 p.lo, .int .i64 p.hi, .int .i64 p.gr, .slice ad xs.length cap] 28)) w.heap.size [.int .i64 p.op, .int .u64 p.set.a, .int .u64 p.set.b, .int .u64 p.set.c, .int .u64 p.set.d, .int .i64 p.lo, .int .i64 p.hi, .int .i64 p.gr, .slice ad xs.length cap] 28) := Row.new rfl
    by_cases h6 : p.op = 6 ∧ p.gr = g
    · have d6 : (p.op == 6) = true := by simp [h6.1]
      have d7 : (p.gr == (g : Int)) = true := by simp [h6.2]
      have HM : Hid (g ∈ withinOf (.mk p xs)) := by show _ ∈ _; rw [withinOf, if_pos h6.1, h6.2]; simp
      clear h6 hgr
      go_enter Try.func118, Try.ntmps118
      go_wp2_with fail
      go_ret
      exact ⟨ret_bool (decide_eq_true HM.out).symm, HB.out⟩
    · have HM : Hid (g ∈ withinOf (.mk p xs) ↔ g ∈ withinAll xs) := by
        show _ ↔ _
        rw [withinOf, List.mem_append]
        constructor
        · rintro (h | h)
          · split at h
            · rename_i h7
              have := hgr (.inl h7)
              have e := List.mem_singleton.1 h
              exact absurd ⟨h7, by omega⟩ h6
            · cases h
          · exact h
        · exact .inr
      have hd : (p.op == 6) = false ∨ ((p.op == 6) = true ∧ (p.gr == (g : Int)) = false) := by
        by_cases h7 : p.op = 6
        · right; simp [h7]; exact fun e => h6 ⟨h7, e⟩
        · left; simp [h7]
      clear h6 hgr
      rcases hd with hd | ⟨hd, hd2⟩
      all_goals
        go_enter Try.func118, Try.ntmps118
        go_wp2_with fail
        go_loopw [5] (fun i wr => ∃ (k : Nat), k ≤ xs.length ∧ i = .int .i64 k ∧ Hid (g ∉ withinAll (xs.take k) ∧ Row wr w.heap.size [.int .i64 p.op, .int .u64 p.set.a, .int .u64 p.set.b, .int .u64 p.set.c, .int .u64 p.set.d, .int .i64 p.lo, .int .i64 p.hi, .int .i64 p.gr, .slice ad xs.length cap] 28 ∧ Below w.heap.size w wr)) (fun i _ => xs.length - (intOf i).toNat)
        case atStart => exact ⟨0, Nat.zero_le _, rfl, by simp [withinAll], HRW.out, HB.out⟩
        case round =>
          obtain ⟨k, hk, rfl, HX⟩ := hrel
          have q1 := HX.out.2.1.c9
          have hB := HX.out.2.1.lt
          have HBL : Hid (Below wb.heap.size wb wr) := HBW.out.trans (HX.out.2.2.mono HBW.out.size)
          by_cases hlt : k < xs.length
          · obtain ⟨b, o, p', ad1, n1, cap1, e3, HC, HI0, hbb⟩ := HAL.out.kid HBL.out k hlt
            subst e3
            have hltI : (k : Int) < xs.length := by omega
            have hwk : IntKind.i64.wrap ((k : Int) + 1) = ((k + 1 : Nat) : Int) := by rw [IntKind.wrap_i64]; omega
            go_wp2_with (first | (with_reducible (refine wpList_load_agg rfl 28 _ rfl b (o + (k * 9)) rfl _ _ HC.out Try.underlying28 rfl (size_re9 _ _ _ _ _ _ _ _ _) ?_)))
            refine (HIH.out xs[k] (List.getElem_mem _) _ _ HI0.out (Re.oks_get9 HOK.out k hlt) HBL.out).mono ?_
            rintro e w2 ⟨rfl, hb2⟩
            have HW2 := hid (⟨HX.out.2.1.below hb2 HX.out.2.1.lt, HX.out.2.2.trans (hb2.mono HX.out.2.2.size)⟩ : _ ∧ _)
            have HST := hid (withinAll_step xs k hlt)
            clear hb2 q1
            by_cases hm : g ∈ withinOf xs[k]
            · have HMM : Hid (g ∈ withinOf (.mk p xs)) := by
                show _ ∈ _
                rw [HM.out, ← List.take_append_drop (k + 1) xs, withinAll_app9, HST.out]
                simp [hm]
              rw [decide_eq_true hm]
              clear hm
              go_wp2_with fail
              go_ret
              exact ⟨ret_bool (decide_eq_true HMM.out).symm, HW2.out.2⟩
            · have HMM : Hid (g ∉ withinAll (xs.take (k + 1))) := by
                show ¬ _
                rw [HST.out, List.mem_append]
                rintro (h | h)
                · exact HX.out.1 h
                · exact hm h
              rw [decide_eq_false hm]
              clear hm
              go_wp2_with fail
              refine ⟨⟨k + 1, by omega, by go_num, HMM.out, HW2.out⟩, ?_⟩
              simp [intOf] <;> omega
          · obtain rfl : k = xs.length := by omega
            go_wp2_with fail
            go_ret
            have h9 := HX.out.1
            rw [List.take_length, ← HM.out] at h9
            exact ⟨ret_bool (decide_eq_false h9).symm, HX.out.2.2⟩
end Go.Proofs.Ythnpbopnpdlmnaa

/- The reference of the parses: spans without groups, anchors, back references. -/
namespace Go.Proofs.Ythnpbopnpdlmnaa
open Go.RowKit
attribute [local go_sem] gives givesUpon

theorem ext_list9 (s : ByteArray) (i k : Nat) : (s.extract i k).toList = (s.data.toList.drop i).take (k - i) := by
  rw [ByteArray.toList_eq, ByteArray.data_extract, Array.toList_extract]

theorem OwnSp.keep {w w' : World} {base : Nat} {v : Value} {l : Spans} (h : OwnSp w base v l) (hk : ∀ g, v.ownBlock = some g → w'.heap[g]? = w.heap[g]?) : OwnSp w' base v l := by
  obtain ⟨h0, h1, h2⟩ := h
  refine ⟨h0, h1, ?_⟩
  rcases h2 with h2 | ⟨g, cap, cur, hv, hg, hcur, hr⟩
  · exact .inl h2
  · exact .inr ⟨g, cap, cur, hv, hg, (hk g (by rw [hv]; rfl)).trans hcur, hr⟩
set_option maxRecDepth 100000 in
set_option maxHeartbeats 8000000 in
theorem rcleared_any (wb : World) (N : Nat) (t : Re) (w : World) (cs : List Value) (sv : Value) (sp : Spans) (hIn : t.In wb cs) (hok : t.ok N) (hbw : Below wb.heap.size wb w) (hsp : SpQ w sv sp) (hl : sp.length ≤ 9) :
    Calls Try.prog 98 #[.agg cs.toArray, sv] w fun e w' => ∃ a c, e = .returned (.slice a sp.length c) ∧ Below w.heap.size w w' ∧ SpQ w' (.slice a sp.length c) (unset sp (withinOf t)) := by
  have hpos := within_pos t hok
  have HIH := hid (fun (x : World) (g : Nat) (hx : Below wb.heap.size wb x) => rinner_any wb N g t x cs hIn hok hx)
  cases t with
  | mk p xs =>
  rw [Re.In] at hIn
  obtain ⟨ad, cap, rfl, -⟩ := hIn
  simp only [Pay.cells] at HIH ⊢
  obtain ⟨sa, sc, rfl⟩ := hsp.form
  obtain ⟨n, hnn⟩ : ∃ n, n = sp.length := ⟨_, rfl⟩
  have hn9 : n ≤ 9 := by omega
  have HNN := hid hnn
  rw [← hnn] at hsp ⊢
  have HB := hid ((Below.refl w.heap.size w).alloc (Nat.le_refl _) (.cells #[.int .i64 p.op, .int .u64 p.set.a, .int .u64 p.set.b, .int .u64 p.set.c, .int .u64 p.set.d, .int .i64 p.lo, .int .i64 p.hi, .int .i64 p.gr, .slice ad xs.length cap] 28))
  have HS := hid (hsp.below HB.out)
  have HBW := hid hbw
  have HRW : Hid (Row (w.alloc (.cells #[.int .i64 p.op, .int .u64 p.set.a, .int .u64 p.set.b, .int .u64 p.set.c, .int .u64 p.set.d, .int .i64 p.lo, .int .i64 p.hi, .int .i64 p.gr, .slice ad xs.length cap] 28)) w.heap.size [.int .i64 p.op, .int .u64 p.set.a, .int .u64 p.set.b, .int .u64 p.set.c, .int .u64 p.set.d, .int .i64 p.lo, .int .i64 p.hi, .int .i64 p.gr, .slice ad xs.length cap] 28) := Row.new rfl
  obtain ⟨gs, hgs⟩ : ∃ gs, gs = withinOf (.mk p xs) := ⟨_, rfl⟩
  rw [← hgs] at HIH hpos ⊢
  have HPOS := hid hpos
  have hz : ((w.alloc (.cells #[.int .i64 p.op, .int .u64 p.set.a, .int .u64 p.set.b, .int .u64 p.set.c, .int .u64 p.set.d, .int .i64 p.lo, .int .i64 p.hi, .int .i64 p.gr, .slice ad xs.length cap] 28))).heap.size = w.heap.size + 1 := by simp
  clear hsp hl hnn hbw hok hpos hgs
  go_enter Try.func98, Try.ntmps98
  go_wp2_with fail
  go_loopw [5, 6] (fun v5 v6 wr => ∃ (j : Nat) (a : Option Addr) (m c : Nat), v5 = .slice a m c ∧ v6 = .int .i64 j ∧ j ≤ n ∧ Hid (m = j ∧ OwnSp wr (w.heap.size + 1) (.slice a m c) ((unset sp gs).take j) ∧ Row wr w.heap.size [.int .i64 p.op, .int .u64 p.set.a, .int .u64 p.set.b, .int .u64 p.set.c, .int .u64 p.set.d, .int .i64 p.lo, .int .i64 p.hi, .int .i64 p.gr, .slice ad xs.length cap] 28 ∧ Below (w.heap.size + 1) (w.alloc (.cells #[.int .i64 p.op, .int .u64 p.set.a, .int .u64 p.set.b, .int .u64 p.set.c, .int .u64 p.set.d, .int .i64 p.lo, .int .i64 p.hi, .int .i64 p.gr, .slice ad xs.length cap] 28)) wr)) (fun _ v6 _ => n - (intOf v6).toNat)
  case atStart => exact ⟨0, none, 0, 0, rfl, rfl, Nat.zero_le _, rfl, OwnSp.nil _ _, HRW.out, Below.refl _ _⟩
  case round =>
    obtain ⟨j, a, m, c, rfl, rfl, hj, HX⟩ := hrel
    have q1 := HX.out.2.2.1.c9
    have qlt := HX.out.2.2.1.lt
    by_cases hlt : j < n
    · have hltI : (j : Int) < (n : Int) := by omega
      obtain ⟨h0, h1, hrw, h2⟩ := HX.out
      obtain ⟨b, cc, x1, x2, hq, ev, hb, -, p0, p1⟩ := (HS.out.of (fun _ _ hr => hr.below h2 (by have := hr.lt; omega)) : SpQ wr _ sp).get (k := j) (by have := HNN.out; omega)
      injection ev with e1 e2 e3
      subst e1; subst e3
      clear e2
      have HO := hid (⟨h0, h1, hrw, h2⟩ : _ ∧ _ ∧ _ ∧ _)
      have hsz := h2.size
      have HT : Hid (∀ y, y = (if j + 1 ∈ gs then ((-1 : Int), (-1 : Int)) else (x1, x2)) → (unset sp gs).take (j + 1) = (unset sp gs).take j ++ [y]) := fun y hy => by
        rw [List.take_add_one, unset_get gs sp j _ (fun g hg => (HPOS.out g hg).1) hq, hy]; rfl
      have hul : Hid ((unset sp gs).length = n) := by show _ = _; rw [unset_len, HNN.out]
      have hwj : IntKind.i64.wrap ((j : Int) + 1) = ((j + 1 : Nat) : Int) := by rw [IntKind.wrap_i64]; omega
      clear h0 h1 h2 hq hrw
      go_wp2_with fail
      refine (HIH.out _ (j + 1) (HBW.out.trans ((HB.out.trans ((HO.out.2.2.2.mono (by omega)).trans (((Below.refl _ _).alloc (Nat.le_refl _) _).mono (by simp at hsz; omega)))).mono HBW.out.size))).mono ?_
      rintro e w2 ⟨rfl, hb2⟩
      have hxr : Row (wr.alloc (.cells #[.int .i64 x1, .int .i64 x2] 47)) wr.heap.size [.int .i64 x1, .int .i64 x2] 47 := Row.new rfl
      have hxr2 := hxr.below hb2 (by simp)
      have hsz2 : wr.heap.size + 1 ≤ w2.heap.size := by have := hb2.size; simp at this; exact this
      have HO2 := hid (⟨HO.out.1, HO.out.2.1.below (((Below.refl _ _).alloc (Nat.le_refl _) _).trans (hb2.mono (by simp))), HO.out.2.2.1.below (((Below.refl wr.heap.size wr).alloc (Nat.le_refl _) (.cells #[.int .i64 x1, .int .i64 x2] 47)).trans (hb2.mono (by simp))) HO.out.2.2.1.lt, HO.out.2.2.2.trans ((((Below.refl _ _).alloc (Nat.le_refl _) _).trans (hb2.mono (by simp))).mono (by simp at hsz; omega))⟩ : m = j ∧ OwnSp w2 (w.heap.size + 1) (.slice a m c) ((unset sp gs).take j) ∧ Row w2 w.heap.size [.int .i64 p.op, .int .u64 p.set.a, .int .u64 p.set.b, .int .u64 p.set.c, .int .u64 p.set.d, .int .i64 p.lo, .int .i64 p.hi, .int .i64 p.gr, .slice ad xs.length cap] 28 ∧ Below (w.heap.size + 1) (w.alloc (.cells #[.int .i64 p.op, .int .u64 p.set.a, .int .u64 p.set.b, .int .u64 p.set.c, .int .u64 p.set.d, .int .i64 p.lo, .int .i64 p.hi, .int .i64 p.gr, .slice ad xs.length cap] 28)) w2)
      have HXR := hid hxr2
      have r0 := hxr2.cell 0
      have r1 := hxr2.cell 1
      have f0 := hxr2.free 0
      have f1 := hxr2.free 1
      clear hb2 hxr hxr2 p0 p1 q1
      have hsw : w.heap.size + 1 ≤ wr.heap.size := by simp at hsz; omega
      by_cases hm : j + 1 ∈ gs
      · rw [decide_eq_true hm]
        have HM := hid hm
        clear hm
        go_upto_region 8 with fail
        have hy : Row ((w2.setCell ⟨wr.heap.size, 0, none⟩ (.int .i64 (-1))).setCell ⟨wr.heap.size, 1, none⟩ (.int .i64 (-1))) wr.heap.size [.int .i64 (-1), .int .i64 (-1)] 47 := (HXR.out.set 0 _).set 1 _
        obtain ⟨y, hye⟩ : ∃ y, y = ((w2.setCell ⟨wr.heap.size, 0, none⟩ (.int .i64 (-1))).setCell ⟨wr.heap.size, 1, none⟩ (.int .i64 (-1))) := ⟨_, rfl⟩
        rw [← hye] at hy ⊢
        have HYE := hid hye
        clear r0 r1 f0 f1 hye
        have hb3 : But [wr.heap.size] w2 y := by
          rw [HYE.out]
          exact ((But.refl _ _).setCell (p := ⟨wr.heap.size, 0, none⟩) (.inl (by simp)) _).setCell (p := ⟨wr.heap.size, 1, none⟩) (.inl (by simp)) _
        have HY := hid (⟨HO2.out.1, HO2.out.2.1.keep (fun g hg => hb3.block g (by have := (HO2.out.2.1.lt g hg).2; exact this) (by have := (HO.out.2.1.lt g hg).2; simp; omega)), HO2.out.2.2.1.but hb3 (by simp; omega), HO2.out.2.2.2.trans (hb3.below (by simp at hsz; omega) (by simp; omega))⟩ : m = j ∧ OwnSp y (w.heap.size + 1) (.slice a m c) ((unset sp gs).take j) ∧ Row y w.heap.size [.int .i64 p.op, .int .u64 p.set.a, .int .u64 p.set.b, .int .u64 p.set.c, .int .u64 p.set.d, .int .i64 p.lo, .int .i64 p.hi, .int .i64 p.gr, .slice ad xs.length cap] 28 ∧ Below (w.heap.size + 1) (w.alloc (.cells #[.int .i64 p.op, .int .u64 p.set.a, .int .u64 p.set.b, .int .u64 p.set.c, .int .u64 p.set.d, .int .i64 p.lo, .int .i64 p.hi, .int .i64 p.gr, .slice ad xs.length cap] 28)) y)
        have hsy := hb3.size
        clear hb3 HO HO2
        have s0 := hy.cell 0
        have s1 := hy.cell 1
        clear hy
        go_wp2_with (at_builtin; refine wpList_append_sp rfl _ _ rfl (w.heap.size + 1) _ ((unset sp gs).take j) [(-1, -1)] _ rfl ?c0 rfl (SpQ.lit (Row.new rfl)) (by simp) ?c2 ?c3 ?_)
        case c0 => exact HY.out.2.1.below ((Below.refl _ _).alloc (Nat.le_refl _) _)
        case c2 => have := hul.out; simp; omega
        case c3 => simp; omega
        intro a2 n2 c2 w3 hn2 hown hgrow hnw
        have HZ : Hid (n2 = j + 1 ∧ OwnSp w3 (w.heap.size + 1) (.slice a2 n2 c2) ((unset sp gs).take (j + 1)) ∧ Row w3 w.heap.size [.int .i64 p.op, .int .u64 p.set.a, .int .u64 p.set.b, .int .u64 p.set.c, .int .u64 p.set.d, .int .i64 p.lo, .int .i64 p.hi, .int .i64 p.gr, .slice ad xs.length cap] 28 ∧ Below (w.heap.size + 1) (w.alloc (.cells #[.int .i64 p.op, .int .u64 p.set.a, .int .u64 p.set.b, .int .u64 p.set.c, .int .u64 p.set.d, .int .i64 p.lo, .int .i64 p.hi, .int .i64 p.gr, .slice ad xs.length cap] 28)) w3) := by
          have hyy := HT.out (-1, -1) (by rw [if_pos HM.out])
          refine ⟨?_, by rw [hyy]; exact hown, ?_, (HY.out.2.2.2.alloc (by omega) _).grown hgrow (by simp; omega) fun g hg => (HY.out.2.1.lt g hg).1⟩
          · have := hul.out
            rw [hn2]; simp; omega
          · exact (HY.out.2.2.1.alloc _).grownOwn (World.ownsRow.alloc HY.out.2.1.2 _) (by decide) hgrow
        clear hown hgrow hnw hn2 s0 s1
        go_wp2_with fail
        refine ⟨⟨j + 1, a2, n2, c2, rfl, by go_num, by omega, HZ.out⟩, ?_⟩
        simp [intOf] <;> omega
      · rw [decide_eq_false hm]
        have HM := hid hm
        clear hm
        go_upto_region 8 with fail
        have hy := HXR.out
        obtain ⟨y, hye⟩ : ∃ y, y = w2 := ⟨_, rfl⟩
        rw [← hye] at hy ⊢
        have HYE := hid hye
        clear r0 r1 f0 f1 hye
        have hb3 : But [wr.heap.size] w2 y := by
          rw [HYE.out]
          exact But.refl _ _
        have HY := hid (⟨HO2.out.1, HO2.out.2.1.keep (fun g hg => hb3.block g (by have := (HO2.out.2.1.lt g hg).2; exact this) (by have := (HO.out.2.1.lt g hg).2; simp; omega)), HO2.out.2.2.1.but hb3 (by simp; omega), HO2.out.2.2.2.trans (hb3.below (by simp at hsz; omega) (by simp; omega))⟩ : m = j ∧ OwnSp y (w.heap.size + 1) (.slice a m c) ((unset sp gs).take j) ∧ Row y w.heap.size [.int .i64 p.op, .int .u64 p.set.a, .int .u64 p.set.b, .int .u64 p.set.c, .int .u64 p.set.d, .int .i64 p.lo, .int .i64 p.hi, .int .i64 p.gr, .slice ad xs.length cap] 28 ∧ Below (w.heap.size + 1) (w.alloc (.cells #[.int .i64 p.op, .int .u64 p.set.a, .int .u64 p.set.b, .int .u64 p.set.c, .int .u64 p.set.d, .int .i64 p.lo, .int .i64 p.hi, .int .i64 p.gr, .slice ad xs.length cap] 28)) y)
        have hsy := hb3.size
        clear hb3 HO HO2
        have s0 := hy.cell 0
        have s1 := hy.cell 1
        clear hy
        go_wp2_with (at_builtin; refine wpList_append_sp rfl _ _ rfl (w.heap.size + 1) _ ((unset sp gs).take j) [(x1, x2)] _ rfl ?c0 rfl (SpQ.lit (Row.new rfl)) (by simp) ?c2 ?c3 ?_)
        case c0 => exact HY.out.2.1.below ((Below.refl _ _).alloc (Nat.le_refl _) _)
        case c2 => have := hul.out; simp; omega
        case c3 => simp; omega
        intro a2 n2 c2 w3 hn2 hown hgrow hnw
        have HZ : Hid (n2 = j + 1 ∧ OwnSp w3 (w.heap.size + 1) (.slice a2 n2 c2) ((unset sp gs).take (j + 1)) ∧ Row w3 w.heap.size [.int .i64 p.op, .int .u64 p.set.a, .int .u64 p.set.b, .int .u64 p.set.c, .int .u64 p.set.d, .int .i64 p.lo, .int .i64 p.hi, .int .i64 p.gr, .slice ad xs.length cap] 28 ∧ Below (w.heap.size + 1) (w.alloc (.cells #[.int .i64 p.op, .int .u64 p.set.a, .int .u64 p.set.b, .int .u64 p.set.c, .int .u64 p.set.d, .int .i64 p.lo, .int .i64 p.hi, .int .i64 p.gr, .slice ad xs.length cap] 28)) w3) := by
          have hyy := HT.out (x1, x2) (by rw [if_neg HM.out])
          refine ⟨?_, by rw [hyy]; exact hown, ?_, (HY.out.2.2.2.alloc (by omega) _).grown hgrow (by simp; omega) fun g hg => (HY.out.2.1.lt g hg).1⟩
          · have := hul.out
            rw [hn2]; simp; omega
          · exact (HY.out.2.2.1.alloc _).grownOwn (World.ownsRow.alloc HY.out.2.1.2 _) (by decide) hgrow
        clear hown hgrow hnw hn2 s0 s1
        go_wp2_with fail
        refine ⟨⟨j + 1, a2, n2, c2, rfl, by go_num, by omega, HZ.out⟩, ?_⟩
        simp [intOf] <;> omega
    · obtain rfl : j = n := by omega
      have hltI : ¬ (j : Int) < (j : Int) := by omega
      go_wp2_with fail
      go_ret
      obtain ⟨h0, h1, h2, h3⟩ := HX.out
      subst h0
      rw [List.take_of_length_le (by rw [unset_len]; exact Nat.le_of_eq HNN.out.symm)] at h1
      exact ⟨a, c, rfl, HB.out.trans (h3.mono (by omega)), h1.q⟩
end Go.Proofs.Ythnpbopnpdlmnaa
