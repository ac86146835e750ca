/- The laws of layer 9: lists of ends (ends, has, within). -/
import Derived.Test.YtkinnfejgpnddaaDoorK03
import Derived.WalkSpells
import Derived.Deep.CutRange
import Derived.Laws.AppendOwnNone
import Derived.Test.YtkinnfejgpnddaaDoorK20
import Derived.Test.YtkinnfejgpnddaaDoorK18
import Derived.Test.YtkinnfejgpnddaaDoorK01
namespace Go.Proofs.YtkinnfejgpnddaaDoor
open Go.RowKit
attribute [local go_sem] gives givesUpon

def nv9 (n : Nat) : Value := .int .i64 (n : Int)
/-- Numbers that the call owns. -/
def OwnI (w : World) (base : Nat) (v : Value) (l : List Nat) : Prop := w.ownsRow base 3 1 v l.length (l.map nv9)
/-- Numbers at a slice's place. -/
def IntQ (w : World) (v : Value) (l : List Nat) : Prop := (l = [] ∧ v = .slice none 0 0) ∨ (l ≠ [] ∧ ∃ (b c : Nat) (more : List Value), v = .slice (some ⟨b, 0, none⟩) l.length c ∧ Row w b (l.map nv9 ++ more) 3)
theorem IntQ.below {w w' : World} {v : Value} {l : List Nat} (h : IntQ w v l) (hf : Below w.heap.size w w') : IntQ w' v l := by
  rcases h with h | ⟨h0, b, c, m, h1, h2⟩
  · exact .inl h
  · exact .inr ⟨h0, b, c, m, h1, h2.below hf h2.lt⟩
theorem IntQ.form {w : World} {v : Value} {l : List Nat} (h : IntQ w v l) : ∃ a c, v = .slice a l.length c := by
  rcases h with ⟨rfl, rfl⟩ | ⟨_, b, c, m, rfl, _⟩ <;> exact ⟨_, _, rfl⟩
theorem IntQ.get {w : World} {v : Value} {l : List Nat} (h : IntQ w v l) {k : Nat} (hk : k < l.length) : ∃ (b c n : Nat), l[k]? = some n ∧ v = .slice (some ⟨b, 0, none⟩) l.length c ∧ b < w.heap.size ∧ w.cell? ⟨b, k, none⟩ = some (.int .i64 n) := by
  rcases h with ⟨rfl, _⟩ | ⟨_, b, c, m, h1, h2⟩
  · simp at hk
  · refine ⟨b, c, l[k], by simp [hk], h1, h2.lt, ?_⟩
    rw [h2.cell, List.getElem?_append_left (by simpa using hk), List.getElem?_map, List.getElem?_eq_getElem hk]
    rfl
theorem OwnI.nil (w : World) (base : Nat) : OwnI w base (.slice none 0 0) [] := World.ownsRow_nil _ _ _ _
theorem OwnI.form {w : World} {base : Nat} {v : Value} {l : List Nat} (h : OwnI w base v l) : ∃ a c, v = .slice a l.length c := ownsRow_shape h
theorem OwnI.lt {w : World} {base : Nat} {v : Value} {l : List Nat} (h : OwnI w base v l) : ∀ g, v.ownBlock = some g → base ≤ g ∧ g < w.heap.size := World.ownsRow.lt h
theorem OwnI.keep {w w' : World} {base : Nat} {v : Value} {l : List Nat} (h : OwnI w base v l) (ho : ∀ g, v.ownBlock = some g → w'.heap[g]? = w.heap[g]?) : OwnI w' base v l := by
  obtain ⟨h3, h4⟩ := h
  refine ⟨h3, ?_⟩
  rcases h4 with h4 | ⟨g, cap, cur, hv, hg, hcur, hr⟩
  · exact .inl h4
  · exact .inr ⟨g, cap, cur, hv, hg, (ho g (by rw [hv]; rfl)).trans hcur, hr⟩
theorem OwnI.below {w w' : World} {base : Nat} {v : Value} {l : List Nat} (h : OwnI w base v l) (hf : Below w.heap.size w w') : OwnI w' base v l := h.keep fun g hg => hf.block g (h.lt g hg).2
theorem OwnI.q {w : World} {base : Nat} {v : Value} {l : List Nat} (h : OwnI w base v l) (h0 : l = [] → v = .slice none 0 0) : IntQ w v l := by
  by_cases hl : l = []
  · exact .inl ⟨hl, h0 hl⟩
  · obtain ⟨h3, h4⟩ := h
    rcases h4 with ⟨-, h4⟩ | ⟨g, cap, cur, hv, hg, hcur, hn, hm, hs, hx⟩
    · exact absurd (List.eq_nil_of_length_eq_zero h4) hl
    · refine .inr ⟨hl, g, cap, cur.toList.drop (l.length * 1), hv, ?_⟩
      have e : l.map nv9 ++ cur.toList.drop (l.length * 1) = cur.toList := by rw [← hx]; exact List.take_append_drop _ _
      unfold Row
      rw [e]
      exact hcur
theorem nv9_one (l : List Nat) : ∀ u, u ∈ l.map nv9 → u.oneCell' = true := by
  intro u hu
  obtain ⟨n, _, rfl⟩ := List.mem_map.1 hu
  rfl
theorem info_int9 : (Tryd.prog.info? 3).map (fun i => (i.zero, i.size, i.bytes)) = some (some (.int .i64 0), 1, 8) := by kernel_rfl
/-- append of numbers to numbers of one's own, as an operation. -/
theorem wpList_append_ints {ops : Array Oper} {rest : List Oper} {o : Oper} {a : Act} {w : World} {Q : Exit → Act → World → Prop} (hgd : o.guard = none) (s x : Operand)
    (ho : o.op = .call { callee := .builtin .append, args := #[s, x], argTypes := #[55, 55] }) (base : Nat) (v : Value) (l m : List Nat) (u : Value) (hs : a.eval s = v) (hown : OwnI w base v l) (hx : a.eval x = u) (hsrc : IntQ w u m)
    (hn : l.length + m.length ≤ 1000000000) (hbase : base ≤ w.heap.size)
    (h : ∀ v' w', OwnI w' base v' (l ++ m) → w.grownBy w' v.ownBlock → (v' = .slice none 0 0 ↔ v = .slice none 0 0 ∧ m = []) → wpList Tryd.prog ops Q rest (a.put o.dst v') w') : wpList Tryd.prog ops Q (o :: rest) a w := by
  obtain ⟨i0, hi0⟩ : ∃ i, Tryd.prog.info? 3 = some i := by
    have := info_int9
    cases hh : Tryd.prog.info? 3 with
    | none => rw [hh] at this; cases this
    | some i => exact ⟨i, rfl⟩
  obtain ⟨hz0, hz1, hz2⟩ : i0.zero = some (.int .i64 0) ∧ i0.size = 1 ∧ i0.bytes = 8 := by
    have := info_int9
    rw [hi0] at this
    simpa using this
  rcases hsrc with ⟨rfl, rfl⟩ | ⟨h0, b, c, more, rfl, hr⟩
  · refine wpList_append_own_none hgd s x 55 ho base 3 i0 1 Tryd.underlying55 hi0 v l.length (l.map nv9) hs hown hx ?_
    exact h v w (by rw [List.append_nil]; exact hown) (World.grownBy.refl _ _) (by simp)
  · refine wpList_append_own w hgd s x 55 ho base 3 i0 (.int .i64 0) 1 8 Tryd.underlying55 hi0 hz0 hz1 hz2 rfl (by decide) v l.length (l.map nv9) hs hown ⟨b, 0, none⟩ m.length c (m.map nv9) hx (by simp) (fun j u hj => ?_) (nv9_one m) (by unfold maxLen; omega) (by omega) hbase fun v' w' h1 h2 h3 => ?_
    · have hj2 : j < (m.map nv9).length := (List.getElem?_eq_some_iff.1 hj).1
      rw [Addr.add_lit, Nat.zero_add, hr.cell, List.getElem?_append_left hj2]; exact hj
    · refine h v' w' (by unfold OwnI; rw [List.length_append, List.map_append]; exact h1) h2 (h3.trans ?_)
      have : m.length = 0 ↔ m = [] := List.length_eq_zero_iff
      rw [this]
set_option maxRecDepth 100000 in
set_option maxHeartbeats 8000000 in
theorem ends9_any (w : World) (q : Nat → Prop) (v : Value) (l : List Parse) (h : PsQ q w v l) (hl : l.length ≤ 100000000) :
    Calls Tryd.prog 26 #[v] w fun e w' => ∃ a c, e = .returned (.slice a l.length c) ∧ Below w.heap.size w w' ∧ IntQ w' (.slice a l.length c) (l.map Prod.fst) := by
  obtain ⟨a, c, rfl⟩ := h.form
  obtain ⟨n, hn⟩ : ∃ n, n = l.length := ⟨_, rfl⟩
  have HN := hid hn
  rw [← hn] at h hl ⊢
  have HP := hid h
  obtain ⟨i0, hi0⟩ : ∃ i, Tryd.prog.info? 3 = some i := by
    have := info_int9
    cases hh : Tryd.prog.info? 3 with
    | none => rw [hh] at this; cases this
    | some i => exact ⟨i, rfl⟩
  obtain ⟨hz0, hz1, hz2⟩ : i0.zero = some (.int .i64 0) ∧ i0.size = 1 ∧ i0.bytes = 8 := by
    have := info_int9
    rw [hi0] at this
    simpa using this
  have HI := hid (⟨hi0, hz0, hz1, hz2⟩ : _ ∧ _ ∧ _ ∧ _)
  clear h hn hi0 hz0 hz1 hz2
  go_enter Tryd.func26, Tryd.ntmps26
  go_wp2_with fail
  go_loopw [3, 4] (fun o v wr => ∃ k : Nat, k ≤ n ∧ v = .int .i64 k ∧ Hid (Below w.heap.size w wr ∧ OwnI wr w.heap.size o ((l.take k).map Prod.fst) ∧ (k = 0 → o = .slice none 0 0))) (fun _ v _ => n - (intOf v).toNat)
  case atStart => exact ⟨0, Nat.zero_le _, rfl, Below.refl _ _, OwnI.nil _ _, fun _ => rfl⟩
  case round =>
    obtain ⟨k, hk, rfl, HX⟩ := hrel
    have hkl : ((l.take k).map Prod.fst).length = k := by rw [List.length_map, List.length_take, ← HN.out]; omega
    by_cases hlt : k < n
    · have hltI : (k : Int) < (n : Int) := by omega
      obtain ⟨b, cc, u1, u2, sa, sc, hq, ev, hb, -, -, p0, -, -⟩ := (HP.out.below HX.out.1).get (k := k) (by rw [← HN.out]; exact hlt)
      injection ev with e1 e2 e3
      subst e1; subst e3
      obtain ⟨ao, co, eo⟩ := HX.out.2.1.form
      rw [hkl] at eo
      subst eo
      have HNX : Hid ((l.take (k + 1)).map Prod.fst = (l.take k).map Prod.fst ++ [u1]) := by
        show _ = _
        rw [List.take_add_one, hq, List.map_append]; rfl
      have HKL := hid hkl
      clear e2 hq hb hkl
      go_upto_region 5 with fail
      have hb1 : Below wr.heap.size wr (wr.alloc (.cells #[.int .i64 u1] 3)) := (Below.refl _ _).alloc (Nat.le_refl _) _
      have ho1 := HX.out.2.1.below hb1
      have hown : (wr.alloc (.cells #[.int .i64 u1] 3)).ownsRow w.heap.size 3 1 (.slice ao k co) k (((l.take k).map Prod.fst).map nv9) := by have := ho1; unfold OwnI at this; rw [HKL.out] at this; exact this
      have HOWN := hid hown
      have hc0 := (Row.new (w := wr) (cs := [.int .i64 u1]) (T := 3) rfl).cell 0
      have HC0 := hid hc0
      clear ho1 hown hc0
      go_wp2_with (at_builtin; refine wpList_append_own _ rfl _ _ 55 rfl w.heap.size 3 i0 (.int .i64 0) 1 8 Tryd.underlying55 HI.out.1 HI.out.2.1 HI.out.2.2.1 HI.out.2.2.2 rfl (by decide) _ k _ rfl HOWN.out ⟨wr.heap.size, 0, none⟩ 1 1 [nv9 u1] rfl rfl ?c1 ?c2 ?c3 ?c4 ?c5 ?_)
      case c1 =>
        intro j u hj
        match j, hj with
        | 0, hj => simp at hj; subst hj; exact HC0.out
      case c2 => intro u hu; simp at hu; subst hu; rfl
      case c3 => unfold maxLen; omega
      case c4 => omega
      case c5 => have := HX.out.1.size; simp; omega
      intro v2 w2 ho2 hg2 hne
      have hv2 := ownsRow_shape ho2
      obtain ⟨a2, c2, rfl⟩ := hv2
      have HZ : Hid (Below w.heap.size w w2 ∧ OwnI w2 w.heap.size (.slice a2 (k + 1) c2) ((l.take (k + 1)).map Prod.fst)) := by
        refine ⟨(HX.out.1.alloc HX.out.1.size (.cells #[.int .i64 u1] 3)).grown hg2 (by have := HX.out.1.size; simp; omega) (fun g hg => (HX.out.2.1.lt g hg).1), ?_⟩
        have e : ((l.take (k + 1)).map Prod.fst).map nv9 = List.take k (List.map (nv9 ∘ Prod.fst) l) ++ [nv9 u1] := by
          rw [HNX.out, List.map_append, List.map_map, List.map_take]; rfl
        have e2 : ((l.take (k + 1)).map Prod.fst).length = k + 1 := by rw [List.length_map, List.length_take, ← HN.out]; omega
        unfold OwnI
        rw [e, e2]
        exact ho2
      clear ho2 hg2 hne
      go_wp2_with fail
      all_goals
        refine ⟨⟨k + 1, hlt, by go_num, HZ.out.1, HZ.out.2, fun h => by omega⟩, ?_⟩
        simp [intOf]; omega
    · have hltI : ¬ (k : Int) < (n : Int) := by omega
      obtain rfl : k = n := by omega
      obtain ⟨ao, co, eo⟩ := HX.out.2.1.form
      rw [hkl] at eo
      subst eo
      have HE : Hid (l.take k = l) := List.take_of_length_le (by have := HN.out; omega)
      go_wp2_with fail
      go_ret
      refine ⟨ao, co, rfl, HX.out.1, ?_⟩
      have h1 := HX.out.2.1
      rw [HE.out] at h1
      exact h1.q fun e => HX.out.2.2 (by have := HN.out; rw [this]; simpa using congrArg List.length e)
set_option maxRecDepth 100000 in
set_option maxHeartbeats 8000000 in
theorem has9_any (w : World) (v : Value) (l : List Nat) (x : Nat) (h : IntQ w v l) (hl : l.length ≤ 100000000) :
    Calls Tryd.prog 27 #[v, .int .i64 x] w fun e w' => e = .returned (.bool (decide (x ∈ l))) ∧ Below w.heap.size w w' := by
  obtain ⟨a, c, rfl⟩ := h.form
  obtain ⟨n, hn⟩ : ∃ n, n = l.length := ⟨_, rfl⟩
  have HN := hid hn
  rw [← hn] at h hl ⊢
  have HP := hid h
  obtain ⟨d, hd⟩ : ∃ d, d = decide (x ∈ l) := ⟨_, rfl⟩
  have HD := hid hd
  rw [← hd]
  clear h hn hd
  go_enter Tryd.func27, Tryd.ntmps27
  go_wp2_with fail
  go_loopw [5] (fun v wr => ∃ k : Nat, k ≤ n ∧ v = .int .i64 k ∧ Hid (Below w.heap.size w wr ∧ x ∉ l.take k)) (fun v _ => n - (intOf v).toNat)
  case atStart => exact ⟨0, Nat.zero_le _, rfl, Below.refl _ _, by simp⟩
  case round =>
    obtain ⟨k, hk, rfl, HX⟩ := hrel
    by_cases hlt : k < n
    · have hltI : (k : Int) < (n : Int) := by omega
      obtain ⟨b, cc, u, hq, ev, hb, p0⟩ := (HP.out.below HX.out.1).get (k := k) (by rw [← HN.out]; exact hlt)
      injection ev with e1 e2 e3
      subst e1; subst e3
      have HQ := hid hq
      clear e2 hq hb
      by_cases hu : u = x
      · have HE : Hid (true = d) := by show true = d; rw [HD.out]; symm; rw [decide_eq_true_eq, ← hu]; exact List.mem_of_getElem? HQ.out
        have huB : ((u : Int) == (x : Int)) = true := by simp; omega
        subst hu
        go_wp2_with fail
        all_goals (try go_ret)
        exact ⟨by rw [← HE.out]; rfl, HX.out.1⟩
      · have huB : ((u : Int) == (x : Int)) = false := by simp; omega
        have HE : Hid (x ∉ l.take (k + 1)) := by
          show x ∉ _
          rw [List.take_add_one, HQ.out]
          intro hm
          rcases List.mem_append.1 hm with hm | hm
          · exact HX.out.2 hm
          · simp at hm; omega
        go_wp2_with fail
        all_goals
          refine ⟨⟨k + 1, hlt, by go_num, HX.out.1, HE.out⟩, ?_⟩
          simp [intOf]; omega
    · have hltI : ¬ (k : Int) < (n : Int) := by omega
      have HE : Hid (false = d) := by
        show false = d; rw [HD.out]; symm; rw [decide_eq_false_iff_not]
        have := HX.out.2
        rwa [List.take_of_length_le (by have := HN.out; omega)] at this
      go_wp2_with fail
      go_ret
      exact ⟨by rw [← HE.out]; rfl, HX.out.1⟩
set_option maxRecDepth 100000 in
set_option maxHeartbeats 8000000 in
theorem within9_any (w : World) (v v' : Value) (l m : List Nat) (h : IntQ w v l) (h' : IntQ w v' m) (hl : l.length ≤ 100000000) (hm : m.length ≤ 100000000) :
    Calls Tryd.prog 25 #[v, v'] w fun e w' => e = .returned (.bool (decide (∀ x, x ∈ l → x ∈ m))) ∧ Below w.heap.size w w' := by
  obtain ⟨a, c, rfl⟩ := h.form
  obtain ⟨a', c', rfl⟩ := h'.form
  obtain ⟨n, hn⟩ : ∃ n, n = l.length := ⟨_, rfl⟩
  obtain ⟨n', hn'⟩ : ∃ n, n = m.length := ⟨_, rfl⟩
  have HN := hid hn
  rw [← hn] at h hl ⊢
  rw [← hn'] at h' ⊢
  have HP := hid h
  have HP' := hid h'
  have HM := hid hm
  obtain ⟨d, hd⟩ : ∃ d, d = decide (∀ x, x ∈ l → x ∈ m) := ⟨_, rfl⟩
  have HD := hid hd
  rw [← hd]
  clear h h' hn hn' hd hm
  go_enter Tryd.func25, Tryd.ntmps25
  go_wp2_with fail
  go_loopw [5] (fun v wr => ∃ k : Nat, k ≤ n ∧ v = .int .i64 k ∧ Hid (Below w.heap.size w wr ∧ ∀ x, x ∈ l.take k → x ∈ m)) (fun v _ => n - (intOf v).toNat)
  case atStart => exact ⟨0, Nat.zero_le _, rfl, Below.refl _ _, by simp⟩
  case round =>
    obtain ⟨k, hk, rfl, HX⟩ := hrel
    by_cases hlt : k < n
    · have hltI : (k : Int) < (n : Int) := by omega
      obtain ⟨b, cc, u, hq, ev, hb, p0⟩ := (HP.out.below HX.out.1).get (k := k) (by rw [← HN.out]; exact hlt)
      injection ev with e1 e2 e3
      subst e1; subst e3
      have HQ := hid hq
      clear e2 hq hb
      go_wp2_with fail
      obtain ⟨r, hr⟩ : ∃ r, r = decide (u ∈ m) := ⟨_, rfl⟩
      have hh := has9_any wr _ m u (HP'.out.below HX.out.1) HM.out
      rw [← hr] at hh
      refine hh.mono ?_
      clear hh
      rintro e w2 ⟨rfl, hb2⟩
      have HX2 := hid (HX.out.1.trans (hb2.mono HX.out.1.size))
      have HR := hid hr
      clear hb2 hr p0
      cases r with
      | true =>
        have HE : Hid (∀ x, x ∈ l.take (k + 1) → x ∈ m) := by
          intro x hx
          rw [List.take_add_one, HQ.out] at hx
          rcases List.mem_append.1 hx with hx | hx
          · exact HX.out.2 x hx
          · have : x = u := by simpa using hx
            rw [this]; simpa using HR.out.symm
        go_wp2_with fail
        all_goals
          refine ⟨⟨k + 1, hlt, by go_num, HX2.out, HE.out⟩, ?_⟩
          simp [intOf]; omega
      | false =>
        have HE : Hid (false = d) := by
          show false = d; rw [HD.out]; symm; rw [decide_eq_false_iff_not]
          intro hall
          have := hall u (List.mem_of_getElem? HQ.out)
          exact absurd HR.out (by simp [this])
        go_wp2_with fail
        all_goals (try go_ret)
        exact ⟨by rw [← HE.out]; rfl, HX2.out⟩
    · have hltI : ¬ (k : Int) < (n : Int) := by omega
      have HE : Hid (true = d) := by
        show true = d; rw [HD.out]; symm; rw [decide_eq_true_eq]
        have := HX.out.2
        rwa [List.take_of_length_le (by have := HN.out; omega)] at this
      go_wp2_with fail
      go_ret
      exact ⟨by rw [← HE.out]; rfl, HX.out.1⟩
end Go.Proofs.YtkinnfejgpnddaaDoor

/- Matching further on, plainly: without anchors at the beginning, the parses behind other bytes are the parses, moved. -/
namespace Go.Proofs.YtkinnfejgpnddaaDoor
open Go.RowKit

def shS (n : Nat) (x : Int × Int) : Int × Int := if x.1 < 0 then x else (x.1 + n, x.2 + n)
def shP (n : Nat) (q : Parse) : Parse := (q.1 + n, q.2.map (shS n))
def shV (n : Nat) (v : Sit) : Sit := (v.1, shP n v.2)
theorem shS_inj (n : Nat) {x y : Int × Int} (h : shS n x = shS n y) : x = y := by
  obtain ⟨a, b⟩ := x
  obtain ⟨c, d⟩ := y
  unfold shS at h
  split at h <;> split at h
  · exact h
  · injection h with h1 h2; dsimp only at *; omega
  · injection h with h1 h2; dsimp only at *; omega
  · injection h with h1 h2
    dsimp only at *
    rw [show a = c by omega, show b = d by omega]
theorem shP_inj (n : Nat) {x y : Parse} (h : shP n x = shP n y) : x = y := by
  obtain ⟨a, b⟩ := x
  obtain ⟨c, d⟩ := y
  unfold shP at h
  injection h with h1 h2
  dsimp only at h1 h2
  rw [show a = c by omega, (List.map_inj_right fun x y h => shS_inj n h).1 h2]
theorem shV_inj (n : Nat) {x y : Sit} (h : shV n x = shV n y) : x = y := by
  obtain ⟨a, b⟩ := x
  obtain ⟨c, d⟩ := y
  unfold shV at h
  injection h with h1 h2
  dsimp only at h1 h2
  rw [h1, shP_inj n h2]
theorem mem_map_inj {α β : Type} {f : α → β} (hf : ∀ x y, f x = f y → x = y) {l : List α} {a : α} : f a ∈ l.map f ↔ a ∈ l :=
  ⟨fun h => by obtain ⟨b, hb, e⟩ := List.mem_map.1 h; rw [← hf _ _ e]; exact hb, fun h => List.mem_map.2 ⟨a, h, rfl⟩⟩
theorem nub_map (n : Nat) (l : List Parse) : nub (l.map (shP n)) = (nub l).map (shP n) := by
  suffices h : ∀ (l a : List Parse), (l.map (shP n)).foldl addP (a.map (shP n)) = (l.foldl addP a).map (shP n) by exact h l []
  intro l
  induction l with
  | nil => intro a; rfl
  | cons q l ih =>
    intro a
    rw [List.map_cons, List.foldl_cons, List.foldl_cons, ← ih]
    congr 1
    unfold addP
    by_cases hq : q ∈ a
    · rw [if_pos hq, if_pos ((mem_map_inj fun x y h => shP_inj n h).2 hq)]
    · rw [if_neg hq, if_neg fun h => hq ((mem_map_inj fun x y h => shP_inj n h).1 h), List.map_append]; rfl
theorem filter_end {L : Nat} {l : List Parse} (hl : ∀ q, q ∈ l → q.1 ≤ L) (e : Nat) : (sortP L l).filter (fun q => q.1 == e) = l.filter fun q => q.1 == e := by
  suffices h : ∀ es : List Nat, es.Nodup → (∀ q, q ∈ l → q.1 ∈ es) → (es.flatMap fun k => l.filter fun q => q.1 == k).filter (fun q => q.1 == e) = l.filter fun q => q.1 == e by
    exact h _ (List.pairwise_reverse.2 (List.nodup_range.imp fun h e => h e.symm)) (fun q hq => by have := hl q hq; simp; omega)
  have hk : ∀ k, (l.filter fun q => q.1 == k).filter (fun q => q.1 == e) = if k = e then l.filter (fun q => q.1 == e) else [] := by
    intro k
    split
    · rename_i h; subst h; rw [List.filter_filter]; exact List.filter_congr fun q _ => by simp
    · rename_i h
      rw [List.filter_eq_nil_iff]
      intro q hq
      have h1 := (List.mem_filter.1 hq).2
      simp at h1
      simp
      omega
  intro es hnd hmem
  have hes : ∀ es : List Nat, es.Nodup → (es.flatMap fun k => l.filter fun q => q.1 == k).filter (fun q => q.1 == e) = if e ∈ es then l.filter (fun q => q.1 == e) else [] := by
    intro es
    induction es with
    | nil => intro _; simp
    | cons k es ih =>
      intro hn
      rw [List.nodup_cons] at hn
      rw [List.flatMap_cons, List.filter_append, hk, ih hn.2]
      by_cases h : k = e
      · subst h
        rw [if_pos rfl, if_neg hn.1, if_pos (by simp)]; simp
      · rw [if_neg h]
        by_cases h2 : e ∈ es
        · rw [if_pos h2, if_pos (by simp [h2])]; rfl
        · rw [if_neg h2, if_neg (by simp [h2]; exact fun h3 => h h3.symm)]; rfl
  rw [hes es hnd]
  split
  · rfl
  · rename_i h
    symm
    rw [List.filter_eq_nil_iff]
    intro q hq hqe
    simp at hqe
    exact h (by rw [← hqe]; exact hmem q hq)
theorem sortP_map (n L : Nat) {l : List Parse} (hl : ∀ q, q ∈ l → q.1 ≤ L) : sortP (L + n) (l.map (shP n)) = (sortP L l).map (shP n) := by
  symm
  refine sortP_of ?_ (fun e => ?_) (fun q hq => ?_)
  · rw [List.pairwise_map]
    refine (sortP_desc L l).imp fun {x y} h => ?_
    show y.1 + n ≤ x.1 + n
    omega
  · rw [List.filter_map, List.filter_map]
    congr 1
    by_cases he : n ≤ e
    · have h1 : ((fun q : Parse => q.1 == e) ∘ shP n) = fun q : Parse => q.1 == e - n := by
        funext q
        show (q.1 + n == e) = (q.1 == e - n)
        rw [Bool.eq_iff_iff]; simp; omega
      rw [h1, filter_end hl]
    · have h1 : ∀ m : List Parse, m.filter ((fun q : Parse => q.1 == e) ∘ shP n) = [] := by
        intro m
        rw [List.filter_eq_nil_iff]
        intro q _ h
        have : (q.1 + n == e) = true := h
        simp at this
        omega
      rw [h1, h1]
  · obtain ⟨q0, h0, rfl⟩ := List.mem_map.1 hq
    have := (sortP_mem.1 h0).2
    show q0.1 + n ≤ L + n
    omega
theorem fin_map (n L : Nat) {l : List Parse} (hl : ∀ q, q ∈ l → q.1 ≤ L) : fin (L + n) (l.map (shP n)) = (fin L l).map fun m => m.map (shP n) := by
  unfold fin
  rw [nub_map, List.length_map]
  split
  · rfl
  · rw [sortP_map n L fun q hq => hl q (nub_mem.1 hq)]; rfl
theorem mapM_map {α : Type} {n : Nat} {f g : α → Option (List Parse)} {h : α → α} : ∀ (l : List α), (∀ a, a ∈ l → g (h a) = (f a).map fun m => m.map (shP n)) → (l.map h).mapM g = (l.mapM f).map fun ms => ms.map fun m => m.map (shP n)
  | [], _ => rfl
  | a :: l, hl => by
    rw [List.map_cons, List.mapM_cons, List.mapM_cons, hl a (by simp), mapM_map l fun b hb => hl b (by simp [hb])]
    cases f a with
    | none => rfl
    | some b =>
      cases l.mapM f with
      | none => rfl
      | some bs => rfl
theorem unset_map (n : Nat) (gs : List Nat) : ∀ sp : Spans, unset (sp.map (shS n)) gs = (unset sp gs).map (shS n) := by
  induction gs with
  | nil => intro sp; rfl
  | cons g gs ih =>
    intro sp
    show unset ((sp.map (shS n)).set (g - 1) (-1, -1)) gs = (unset (sp.set (g - 1) (-1, -1)) gs).map (shS n)
    rw [← ih, List.map_set]
    rfl
section
variable (p : Pay) (gs : List Nat) (child child' : Nat → Spans → Option (List Parse)) (n : Nat) (G : Parse → Prop)
theorem visit_map (hch : ∀ j sp, G (j, sp) → child' (j + n) ((unset sp gs).map (shS n)) = (child j (unset sp gs)).map fun m => m.map (shP n)) (hG : ∀ j sp l, G (j, sp) → child j (unset sp gs) = some l → ∀ q, q ∈ l → G q) :
    ∀ (f : Nat) (x : Sit) (st : List Sit × List Parse), G x.2 → visit p gs child' f (shV n x) (st.1.map (shV n), st.2.map (shP n)) = (visit p gs child f x st).map fun st => (st.1.map (shV n), st.2.map (shP n))
  | 0, x, st, _ => rfl
  | f + 1, (c0, i, sp), st, hx => by
    obtain ⟨c, hc⟩ : ∃ c, clampC p c0 = c := ⟨_, rfl⟩
    have e1 : visit p gs child' (f + 1) (shV n (c0, i, sp)) (st.1.map (shV n), st.2.map (shP n)) = if (c, i + n, sp.map (shS n)) ∈ st.1.map (shV n) then some (st.1.map (shV n), st.2.map (shP n)) else if most < (st.1.map (shV n)).length + 1 then none else
        (if p.hi < 0 ∨ (c : Int) < p.hi then (child' (i + n) (unset (sp.map (shS n)) gs)).bind fun l => l.foldlM (fun st q => if q.1 = i + n ∧ p.lo ≤ (c : Int) then some st else visit p gs child' f (c + 1, q.1, q.2) st) (st.1.map (shV n) ++ [(c, i + n, sp.map (shS n))], st.2.map (shP n)) else some (st.1.map (shV n) ++ [(c, i + n, sp.map (shS n))], st.2.map (shP n))).bind
        fun st => some (st.1, if p.lo ≤ (c : Int) then st.2 ++ [(i + n, sp.map (shS n))] else st.2) := by subst hc; rfl
    have e2 : visit p gs child (f + 1) (c0, i, sp) st = if (c, i, sp) ∈ st.1 then some st else if most < st.1.length + 1 then none else
        (if p.hi < 0 ∨ (c : Int) < p.hi then (child i (unset sp gs)).bind fun l => l.foldlM (fun st q => if q.1 = i ∧ p.lo ≤ (c : Int) then some st else visit p gs child f (c + 1, q.1, q.2) st) (st.1 ++ [(c, i, sp)], st.2) else some (st.1 ++ [(c, i, sp)], st.2)).bind
        fun st => some (st.1, if p.lo ≤ (c : Int) then st.2 ++ [(i, sp)] else st.2) := by subst hc; rfl
    rw [e1, e2]
    clear e1 e2
    have hmem : ((c, i + n, sp.map (shS n)) ∈ st.1.map (shV n)) ↔ (c, i, sp) ∈ st.1 := mem_map_inj (f := shV n) (a := (c, i, sp)) fun x y h => shV_inj n h
    by_cases hm : (c, i, sp) ∈ st.1
    · rw [if_pos hm, if_pos (hmem.2 hm)]; rfl
    rw [if_neg hm, if_neg fun h => hm (hmem.1 h), List.length_map]
    split
    · rfl
    have hst : (st.1.map (shV n) ++ [(c, i + n, sp.map (shS n))], st.2.map (shP n)) = ((st.1 ++ [(c, i, sp)]).map (shV n), st.2.map (shP n)) := by rw [List.map_append]; rfl
    rw [hst]
    have key : (if p.hi < 0 ∨ (c : Int) < p.hi then (child' (i + n) (unset (sp.map (shS n)) gs)).bind fun l => l.foldlM (fun st q => if q.1 = i + n ∧ p.lo ≤ (c : Int) then some st else visit p gs child' f (c + 1, q.1, q.2) st) ((st.1 ++ [(c, i, sp)]).map (shV n), st.2.map (shP n))
        else some ((st.1 ++ [(c, i, sp)]).map (shV n), st.2.map (shP n))) = (if p.hi < 0 ∨ (c : Int) < p.hi then (child i (unset sp gs)).bind fun l => l.foldlM (fun st q => if q.1 = i ∧ p.lo ≤ (c : Int) then some st else visit p gs child f (c + 1, q.1, q.2) st) (st.1 ++ [(c, i, sp)], st.2)
        else some (st.1 ++ [(c, i, sp)], st.2)).map fun st => (st.1.map (shV n), st.2.map (shP n)) := by
      split
      · rw [unset_map, hch i sp hx]
        cases hl : child i (unset sp gs) with
        | none => rfl
        | some l =>
          simp only [Option.map_some, Option.bind_some]
          have hg := hG i sp l hx hl
          have fold : ∀ (l' : List Parse) (s1 : List Sit × List Parse), (∀ q, q ∈ l' → G q) → (l'.map (shP n)).foldlM (fun st q => if q.1 = i + n ∧ p.lo ≤ (c : Int) then some st else visit p gs child' f (c + 1, q.1, q.2) st) (s1.1.map (shV n), s1.2.map (shP n))
              = (l'.foldlM (fun st q => if q.1 = i ∧ p.lo ≤ (c : Int) then some st else visit p gs child f (c + 1, q.1, q.2) st) s1).map fun st => (st.1.map (shV n), st.2.map (shP n)) := by
            intro l'
            induction l' with
            | nil => intro s1 _; rfl
            | cons a l' ih =>
              intro s1 hl'
              rw [List.map_cons, List.foldlM_cons, List.foldlM_cons]
              have h1 : ((shP n a).1 = i + n ∧ p.lo ≤ (c : Int)) ↔ (a.1 = i ∧ p.lo ≤ (c : Int)) := by
                show (a.1 + n = i + n ∧ _) ↔ _
                omega
              by_cases hs : a.1 = i ∧ p.lo ≤ (c : Int)
              · rw [if_pos hs, if_pos (h1.2 hs)]
                exact ih s1 fun q hq => hl' q (by simp [hq])
              · rw [if_neg hs, if_neg fun h => hs (h1.1 h)]
                have hv := visit_map hch hG f (c + 1, a.1, a.2) s1 (hl' a (by simp))
                rw [show ((c + 1, (shP n a).1, (shP n a).2) : Sit) = shV n (c + 1, a.1, a.2) from rfl, hv]
                cases visit p gs child f (c + 1, a.1, a.2) s1 with
                | none => rfl
                | some s2 => exact ih s2 fun q hq => hl' q (by simp [hq])
          exact fold l (st.1 ++ [(c, i, sp)], st.2) hg
      · rfl
    rw [key]
    generalize (if p.hi < 0 ∨ (c : Int) < p.hi then (child i (unset sp gs)).bind fun l => l.foldlM (fun st q => if q.1 = i ∧ p.lo ≤ (c : Int) then some st else visit p gs child f (c + 1, q.1, q.2) st) (st.1 ++ [(c, i, sp)], st.2)
        else some (st.1 ++ [(c, i, sp)], st.2)) = r
    cases r with
    | none => rfl
    | some st2 =>
      simp only [Option.map_some, Option.bind_some]
      split
      · rw [List.map_append]; rfl
      · rfl
end
mutual
/-- No anchor at the beginning. -/
def Re.nobeg : Re → Prop
  | .mk p xs => p.op ≠ 7 ∧ Re.nobegs xs
def Re.nobegs : List Re → Prop
  | [] => True
  | x :: xs => x.nobeg ∧ Re.nobegs xs
end
theorem drop_front : ∀ (b s : List UInt8) (k : Nat), (b ++ s).drop (k + b.length) = s.drop k
  | [], _, _ => rfl
  | _ :: b, s, k => drop_front b s k
section
variable (b s : List UInt8) (N : Nat)
mutual
theorem parses_map : ∀ (t : Re) (i : Nat) (sp : Spans), t.ok N → t.nobeg → i ≤ s.length → SpOk N s.length sp → parses (b ++ s) false t (i + b.length) (sp.map (shS b.length)) = (parses s false t i sp).map fun m => m.map (shP b.length)
  | .mk p xs, i, sp, hok, hb, hi, hsp => by
    rw [Re.ok] at hok
    obtain ⟨⟨hop, -⟩, -, -, -, hoks⟩ := hok
    rw [Re.nobeg] at hb
    have hlen : (b ++ s).length = s.length + b.length := by rw [List.length_append]; omega
    have h0 : POk N s.length i (i, sp) := ⟨Nat.le_refl _, hi, hsp⟩
    rw [parses, parses, hlen]
    by_cases o1 : p.op = 1
    · rw [if_pos o1, if_pos o1]
      rfl
    rw [if_neg o1, if_neg o1]
    by_cases o2 : p.op = 2
    · rw [if_pos o2, if_pos o2]
      have h1 : decide (i + b.length < s.length + b.length) = decide (i < s.length) := by rw [decide_eq_decide]; omega
      have h2 : byteAt (b ++ s) (i + b.length) = byteAt s i := by
        unfold byteAt
        rw [List.getD_eq_getElem?_getD, List.getD_eq_getElem?_getD, List.getElem?_append_right (by omega), show i + b.length - b.length = i by omega]
      rw [h1, h2]
      split
      · show some [(i + b.length + 1, sp.map (shS b.length))] = some [(i + 1 + b.length, sp.map (shS b.length))]
        rw [show i + b.length + 1 = i + 1 + b.length by omega]
      · rfl
    rw [if_neg o2, if_neg o2]
    by_cases o3 : p.op = 3
    · rw [if_pos o3, if_pos o3]
      have hc := catP_map xs [(i, sp)] i hoks hb.2 (fun q hq => by rw [List.mem_singleton.1 hq]; exact h0)
      rw [show [(i + b.length, sp.map (shS b.length))] = [(i, sp)].map (shP b.length) from rfl, hc]
      cases hl : catP s false xs [(i, sp)] with
      | none => rfl
      | some m =>
        exact fin_map _ _ fun q hq => (catP_ok s false N xs [(i, sp)] m i hoks (fun q hq => by rw [List.mem_singleton.1 hq]; exact h0) hl q hq).2.1
    rw [if_neg o3, if_neg o3]
    by_cases o4 : p.op = 4
    · rw [if_pos o4, if_pos o4]
      rw [altP_map xs i sp hoks hb.2 hi hsp]
      cases hl : altP s false xs i sp with
      | none => rfl
      | some m => exact fin_map _ _ fun q hq => (altP_ok s false N xs i sp m hoks hi hsp hl q hq).2.1
    rw [if_neg o4, if_neg o4]
    by_cases o5 : p.op = 5
    · rw [if_pos o5, if_pos o5]
      have hG : ∀ j sp' l, POk N s.length i (j, sp') → firstP s false xs j (unset sp' (withinAll xs)) = some l → ∀ q, q ∈ l → POk N s.length i q := fun j sp' l hj hl q hq => by
        have := firstP_ok s false N xs j (unset sp' (withinAll xs)) l hoks hj.2.1 (hj.2.2.unset _) hl q hq
        exact ⟨Nat.le_trans hj.1 this.1, this.2⟩
      have hv := visit_map p (withinAll xs) (firstP s false xs) (firstP (b ++ s) false xs) b.length (POk N s.length i) (fun j sp' hj => firstP_map xs j (unset sp' (withinAll xs)) hoks hb.2 hj.2.1 (hj.2.2.unset _)) hG (most + 1) (0, i, sp) ([], []) h0
      rw [show ((0, i + b.length, sp.map (shS b.length)) : Sit) = shV b.length (0, i, sp) from rfl, show (([] : List Sit), ([] : List Parse)) = (([] : List Sit).map (shV b.length), ([] : List Parse).map (shP b.length)) from rfl, hv]
      cases hl : visit p (withinAll xs) (firstP s false xs) (most + 1) (0, i, sp) ([], []) with
      | none => simp only [List.map_nil, hl]; rfl
      | some st =>
        simp only [List.map_nil, hl]
        exact fin_map _ _ fun q hq => (visit_inv (G := POk N s.length i) hG _ _ _ st hl h0 (fun q hq => by cases hq) q hq).2.1
    rw [if_neg o5, if_neg o5]
    by_cases o6 : p.op = 6
    · rw [if_pos o6, if_pos o6]
      rw [firstP_map xs i sp hoks hb.2 hi hsp]
      cases hl : firstP s false xs i sp with
      | none => rfl
      | some m =>
        simp only [Option.map_some, Option.bind_some]
        have e : (m.map (shP b.length)).map (fun q => (q.1, q.2.set (p.gr.toNat - 1) (((i + b.length : Nat) : Int), (q.1 : Int)))) = (m.map fun q => (q.1, q.2.set (p.gr.toNat - 1) ((i : Int), (q.1 : Int)))).map (shP b.length) := by
          rw [List.map_map, List.map_map]
          refine List.map_congr_left fun q _ => ?_
          show (q.1 + b.length, (q.2.map (shS b.length)).set (p.gr.toNat - 1) (((i + b.length : Nat) : Int), ((q.1 + b.length : Nat) : Int))) = (q.1 + b.length, (q.2.set (p.gr.toNat - 1) ((i : Int), (q.1 : Int))).map (shS b.length))
          rw [List.map_set]
          have : shS b.length ((i : Int), (q.1 : Int)) = (((i + b.length : Nat) : Int), ((q.1 + b.length : Nat) : Int)) := by
            unfold shS
            rw [if_neg (by dsimp only; omega)]
            simp
          rw [this]
        rw [e]
        refine fin_map _ _ fun q hq => ?_
        obtain ⟨q0, h1, rfl⟩ := List.mem_map.1 hq
        exact (firstP_ok s false N xs i sp m hoks hi hsp hl q0 h1).2.1
    rw [if_neg o6, if_neg o6]
    by_cases o7 : p.op = 7
    · rw [if_pos o7, if_pos o7]
      exact absurd o7 hb.1
    rw [if_neg o7, if_neg o7]
    by_cases o8 : p.op = 8
    · rw [if_pos o8, if_pos o8]
      have h1 : decide (i + b.length = s.length + b.length) = decide (i = s.length) := by rw [decide_eq_decide]; omega
      rw [h1]
      simp only [Bool.false_and, Bool.or_false]
      split
      · rfl
      · rfl
    rw [if_neg o8, if_neg o8]
    · dsimp only
      have hg : (sp.map (shS b.length)).getD (p.gr.toNat - 1) (-1, -1) = shS b.length (sp.getD (p.gr.toNat - 1) (-1, -1)) := by
        rw [List.getD_eq_getElem?_getD, List.getD_eq_getElem?_getD, List.getElem?_map]
        cases sp[p.gr.toNat - 1]? with
        | none => rfl
        | some x => rfl
      rw [hg]
      generalize sp.getD (p.gr.toNat - 1) (-1, -1) = g
      obtain ⟨ga, gb⟩ := g
      by_cases hneg : ga < 0
      · have e : shS b.length (ga, gb) = (ga, gb) := by unfold shS; rw [if_pos hneg]
        rw [e]
        have hd : decide (0 ≤ ga) = false := by simp; omega
        simp only [hd, Bool.false_and]
        rfl
      · have e : shS b.length (ga, gb) = (ga + b.length, gb + b.length) := by unfold shS; rw [if_neg hneg]
        rw [e]
        dsimp only
        have e1 : (gb + (b.length : Int) - (ga + b.length)).toNat = (gb - ga).toNat := by congr 1; omega
        rw [e1]
        generalize (gb - ga).toNat = m
        have e2 : decide (0 ≤ ga + (b.length : Int)) = decide (0 ≤ ga) := by rw [decide_eq_decide]; omega
        have e3 : decide (i + b.length + m ≤ s.length + b.length) = decide (i + m ≤ s.length) := by rw [decide_eq_decide]; omega
        have e4 : (b ++ s).drop (i + b.length) = s.drop i := by exact drop_front b s i
        have e5 : (b ++ s).drop (ga + (b.length : Int)).toNat = s.drop ga.toNat := by
          rw [show (ga + (b.length : Int)).toNat = ga.toNat + b.length by omega]
          exact drop_front b s ga.toNat
        rw [e2, e3, e4, e5]
        split
        · show some [(i + b.length + m, sp.map (shS b.length))] = some [(i + m + b.length, sp.map (shS b.length))]
          rw [show i + b.length + m = i + m + b.length by omega]
        · rfl
theorem firstP_map : ∀ (xs : List Re) (i : Nat) (sp : Spans), Re.oks N xs → Re.nobegs xs → i ≤ s.length → SpOk N s.length sp → firstP (b ++ s) false xs (i + b.length) (sp.map (shS b.length)) = (firstP s false xs i sp).map fun m => m.map (shP b.length)
  | [], i, sp, _, _, _, _ => by rw [firstP, firstP]; rfl
  | x :: xs, i, sp, hok, hb, hi, hsp => by
    rw [Re.oks] at hok
    rw [Re.nobegs] at hb
    rw [firstP, firstP]
    exact parses_map x i sp hok.1 hb.1 hi hsp
theorem altP_map : ∀ (xs : List Re) (i : Nat) (sp : Spans), Re.oks N xs → Re.nobegs xs → i ≤ s.length → SpOk N s.length sp → altP (b ++ s) false xs (i + b.length) (sp.map (shS b.length)) = (altP s false xs i sp).map fun m => m.map (shP b.length)
  | [], i, sp, _, _, _, _ => by rw [altP, altP]; rfl
  | x :: xs, i, sp, hok, hb, hi, hsp => by
    rw [Re.oks] at hok
    rw [Re.nobegs] at hb
    rw [altP, altP, parses_map x i sp hok.1 hb.1 hi hsp, altP_map xs i sp hok.2 hb.2 hi hsp]
    cases parses s false x i sp with
    | none => rfl
    | some l =>
      cases altP s false xs i sp with
      | none => rfl
      | some m =>
        simp only [Option.map_some, Option.bind_some]
        rw [List.map_append]
theorem catP_map : ∀ (xs : List Re) (l : List Parse) (i0 : Nat), Re.oks N xs → Re.nobegs xs → (∀ q, q ∈ l → POk N s.length i0 q) → catP (b ++ s) false xs (l.map (shP b.length)) = (catP s false xs l).map fun m => m.map (shP b.length)
  | [], l, i0, _, _, _ => by rw [catP, catP]; rfl
  | x :: xs, l, i0, hok, hb, hl => by
    rw [Re.oks] at hok
    rw [Re.nobegs] at hb
    rw [catP, catP, mapM_map (n := b.length) (f := fun q : Parse => parses s false x q.1 q.2) l fun q hq => parses_map x q.1 q.2 hok.1 hb.1 (hl q hq).2.1 (hl q hq).2.2]
    cases hm : l.mapM (fun q : Parse => parses s false x q.1 q.2) with
    | none => rfl
    | some ms =>
      simp only [Option.map_some, Option.bind_some]
      rw [← List.map_flatten, nub_map, List.length_map]
      split
      · rfl
      · refine catP_map xs (nub ms.flatten) i0 hok.2 hb.2 fun q hq => ?_
        obtain ⟨c, hc, hqc⟩ := List.mem_flatten.1 (nub_mem.1 hq)
        refine mapM_inv (P := fun c : List Parse => ∀ q, q ∈ c → POk N s.length i0 q) l ms hm (fun a c ha hf q hq => ?_) c hc q hqc
        have h3 := hl a ha
        have := parses_ok s false N x a.1 a.2 c hok.1 h3.2.1 h3.2.2 hf q hq
        exact ⟨Nat.le_trans h3.1 this.1, this.2⟩
end
end
/-- What Parses hands out behind other bytes. -/
theorem parsesR_map (t : Re) (s b : ByteArray) (hb : t.nobeg) : parsesR t (b ++ s) b.size false = ((parsesR t s 0 false).1.map (shP b.size), (parsesR t s 0 false).2) := by
  have hsl : ∀ x : ByteArray, x.data.toList.length = x.size := fun x => by rw [Array.length_toList]; rfl
  have hdl : (b ++ s).data.toList = b.data.toList ++ s.data.toList := by rw [ByteArray.data_append, Array.toList_append]
  have hsz : (b ++ s).size = b.size + s.size := by rw [← hsl, hdl, List.length_append, hsl, hsl]
  have hc : chk t (b ++ s) b.size = chk t s 0 := by
    unfold chk
    split
    · rfl
    · rw [if_neg (by rw [hsz]; omega), if_neg (by omega)]
  unfold parsesR
  rw [hc]
  split
  · rfl
  · rename_i h0
    obtain ⟨he, -, -⟩ := chk_zero (Classical.byContradiction h0)
    have hm := parses_map b.data.toList s.data.toList t.groups t 0 (unsetAll t.groups) (Re.ok_err he).1 hb (Nat.zero_le _) (unsetAll_ok _ _)
    have hu : (unsetAll t.groups).map (shS b.data.toList.length) = unsetAll t.groups := by unfold unsetAll; rw [List.map_replicate]; rfl
    rw [hu, Nat.zero_add, ← hdl, hsl] at hm
    rw [show ((b.size : Nat) : Int).toNat = b.size from rfl, show (0 : Int).toNat = 0 from rfl, hm]
    cases parses s.data.toList false t 0 (unsetAll t.groups) with
    | none => rfl
    | some l => rfl
end Go.Proofs.YtkinnfejgpnddaaDoor

/- A region that draws its order, as in Inv, with one thing more: the variables that its operations make are different from each other. Nothing here speaks of the program. -/
namespace Go.Proofs.YtkinnfejgpnddaaDoor
open Go.RowKit

section
variable {P : Program} {ops : Array Oper} {Q : Exit → Act → World → Prop}

/-- The value is the address of a variable that is new in the world w. -/
def bornAt (b : Bool) (v : Value) (w : World) : Prop := b = true → v = .pointer (some ⟨w.heap.size, 0, none⟩)

structure InvF (ops : Array Oper) (n : Nat) (R : World → World → Prop) (w0 : World) (a0 : Act) (φ : Nat → Value → World → Prop) (B : Nat → Bool) (listed : Array Bool) (a : Act) (w : World) : Prop where
  size : listed.size = ops.size
  closed : ∀ j oj, ops[j]? = some oj → listed.getD j false = true → ∀ e ∈ oj.after, Region.binds .any e = true → listed.getD e.on false = true
  tail : ∀ t, n ≤ t → t < ops.size → listed.getD t true = false
  above : R w0 w
  facts : ∃ vs, a = fill ops vs n a0 ∧ (∀ j, j < n → listed.getD j false = true → φ j (vs j) w) ∧ ∀ i j, i < n → j < n → i ≠ j → B i = true → B j = true → listed.getD i false = true → listed.getD j false = true → vs i ≠ vs j

theorem InvF.toInv {n : Nat} {R : World → World → Prop} {w0 : World} {a0 : Act} {φ : Nat → Value → World → Prop} {B : Nat → Bool} {listed : Array Bool} {a : Act} {w : World} (h : InvF ops n R w0 a0 φ B listed a w) : Inv ops n R w0 a0 φ listed a w :=
  ⟨h.size, h.closed, h.tail, h.above, let ⟨vs, h1, h2, _⟩ := h.facts; ⟨vs, h1, h2⟩⟩

def StepOfF (P : Program) (ops : Array Oper) (R : World → World → Prop) (φ : Value → World → Prop) (b : Bool) (o : Oper) (a : Act) (w : World) : Prop :=
  if Region.wanted o (yielded ops a.tmps) then gives P o a w (fun v w' => R w w' ∧ φ v w' ∧ bornAt b v w) else φ undef w ∧ b = false

/-- As 'Plan'; fs: the operations that make a variable. -/
def PlanF (P : Program) (ops : Array Oper) (Q : Exit → Act → World → Prop) (R : World → World → Prop) (w0 : World) (n : Nat) (F : (Nat → Value) → Act) : List Oper → Nat → List (Nat × (Value → World → Prop)) → List Nat → Prop
  | [], _, φs, fs => ∀ vs w, R w0 w → (∀ (k j : Nat) (φ : Value → World → Prop), φs[k]? = some (j, φ) → φ (vs j) w) → (∀ i j, i ∈ fs → j ∈ fs → i ≠ j → vs i ≠ vs j) → wpList P ops Q (ops.toList.drop n) (F vs) w
  | o :: rest, i, φs, fs => ∃ (φ : Value → World → Prop) (b : Bool), (∀ v x y, R x y → φ v x → φ v y) ∧ (b = true → ∀ v x, φ v x → v ≠ .pointer (some ⟨x.heap.size, 0, none⟩)) ∧
      (∀ vs w, R w0 w → (∀ (k j : Nat) (φ' : Value → World → Prop), φs[k]? = some (j, φ') → waits ops i j = true → φ' (vs j) w) → StepOfF P ops R φ b o (F vs) w) ∧ PlanF P ops Q R w0 n F rest (i + 1) ((i, φ) :: φs) (if b = true then i :: fs else fs)

theorem PlanF.spec {R : World → World → Prop} {w0 : World} {n : Nat} {F : (Nat → Value) → Act} : ∀ (l : List Oper) (i : Nat) (φs : List (Nat × (Value → World → Prop))) (fs : List Nat) (pre : List ((Value → World → Prop) × Bool)), PlanF P ops Q R w0 n F l i φs fs → pre.length = i →
    (∀ (j : Nat) (φ : Value → World → Prop), (j, φ) ∈ φs → ∃ b, pre[j]? = some (φ, b)) → (∀ j, j ∈ fs → ∃ φ, pre[j]? = some (φ, true)) → (∀ e, e ∈ pre → (∀ v x y, R x y → e.1 v x → e.1 v y) ∧ (e.2 = true → ∀ v x, e.1 v x → v ≠ .pointer (some ⟨x.heap.size, 0, none⟩))) →
    ∃ full : List ((Value → World → Prop) × Bool), full.length = i + l.length ∧ (∀ (j : Nat) e, pre[j]? = some e → full[j]? = some e) ∧ (∀ e, e ∈ full → (∀ v x y, R x y → e.1 v x → e.1 v y) ∧ (e.2 = true → ∀ v x, e.1 v x → v ≠ .pointer (some ⟨x.heap.size, 0, none⟩))) ∧
      (∀ (k : Nat) (o : Oper) e, l[k]? = some o → full[i + k]? = some e → ∀ vs w, R w0 w → (∀ (j : Nat) e', j < i + k → full[j]? = some e' → waits ops (i + k) j = true → e'.1 (vs j) w) → StepOfF P ops R e.1 e.2 o (F vs) w) ∧
      (∀ vs w, R w0 w → (∀ (j : Nat) e, full[j]? = some e → e.1 (vs j) w) → (∀ i j e e', full[i]? = some e → full[j]? = some e' → e.2 = true → e'.2 = true → i ≠ j → vs i ≠ vs j) → wpList P ops Q (ops.toList.drop n) (F vs) w)
  | [], i, φs, fs, pre, h, hl, hm, hf, hst => ⟨pre, by simpa using hl, fun _ _ h => h, hst, fun k o φ hk => by simp at hk, fun vs w hR hF hD => h vs w hR (fun k j φ hk => by
      obtain ⟨b, hb⟩ := hm j φ (List.mem_of_getElem? hk)
      exact hF j _ hb) fun i j hi hj hne => by
      obtain ⟨φ, h1⟩ := hf i hi
      obtain ⟨φ', h2⟩ := hf j hj
      exact hD i j _ _ h1 h2 rfl rfl hne⟩
  | o :: rest, i, φs, fs, pre, h, hl, hm, hf, hst => by
    obtain ⟨φ, b, h1, h1b, h2, h3⟩ := h
    have happ : ∀ j e, pre[j]? = some e → (pre ++ [(φ, b)])[j]? = some e := fun j e hj => by
      have hjl : j < pre.length := (List.getElem?_eq_some_iff.1 hj).1
      rw [List.getElem?_append_left hjl]; exact hj
    have hnew : (pre ++ [(φ, b)])[i]? = some (φ, b) := by rw [List.getElem?_append_right (by omega)]; simp [hl]
    obtain ⟨full, f1, f2, f3, f4, f5⟩ := PlanF.spec rest (i + 1) ((i, φ) :: φs) (if b = true then i :: fs else fs) (pre ++ [(φ, b)]) h3 (by simp [hl]) (fun j φ' hj => by
      rcases List.mem_cons.1 hj with hj | hj
      · simp only [Prod.mk.injEq] at hj
        obtain ⟨rfl, rfl⟩ := hj
        exact ⟨b, hnew⟩
      · obtain ⟨b', hb'⟩ := hm j φ' hj
        exact ⟨b', happ j _ hb'⟩) (fun j hj => by
      by_cases hb : b = true
      · subst hb
        rw [if_pos rfl] at hj
        rcases List.mem_cons.1 hj with hj | hj
        · subst hj; exact ⟨φ, hnew⟩
        · obtain ⟨φ', h'⟩ := hf j hj; exact ⟨φ', happ j _ h'⟩
      · rw [if_neg hb] at hj
        obtain ⟨φ', h'⟩ := hf j hj
        exact ⟨φ', happ j _ h'⟩) (fun e he => by
      rcases List.mem_append.1 he with he | he
      · exact hst e he
      · rw [List.mem_singleton.1 he]; exact ⟨h1, h1b⟩)
    refine ⟨full, by simp only [List.length_cons]; omega, fun j e hj => f2 j e (happ j e hj), f3, fun k o' e hk he => ?_, f5⟩
    cases k with
    | zero =>
      simp at hk
      subst hk
      have hφ : full[i]? = some (φ, b) := f2 i _ hnew
      rw [Nat.add_zero, hφ] at he
      obtain rfl := Option.some.inj he
      intro vs w hR hF
      refine h2 vs w hR fun k j φ' hk hw => ?_
      obtain ⟨b', hb'⟩ := hm j φ' (List.mem_of_getElem? hk)
      have hjl : j < pre.length := (List.getElem?_eq_some_iff.1 hb').1
      exact hF j _ (by omega) (f2 j _ (happ j _ hb')) hw
    | succ k =>
      have := f4 k o' e (by simpa using hk) (by rw [show i + 1 + k = i + (k + 1) by omega]; exact he)
      rw [show i + 1 + k = i + (k + 1) by omega] at this
      exact this

theorem StepOfF.of {R : World → World → Prop} {φ : Value → World → Prop} {b : Bool} {o : Oper} {a : Act} {w : World} (_hrf : R w w)
    (h : ∀ K : Value → World → Prop, (∀ v w', R w w' → φ v w' → K v w') → if Region.wanted o (yielded ops a.tmps) then gives P o a w K else K undef w) (hb : b = false) : StepOfF P ops R φ b o a w := by
  have := h (fun v w' => R w w' ∧ φ v w' ∧ bornAt b v w) (fun v w' h1 h2 => ⟨h1, h2, fun h => by rw [hb] at h; cases h⟩)
  unfold StepOfF
  split
  · rename_i hw; rw [if_pos hw] at this; exact this
  · rename_i hw; rw [if_neg hw] at this; exact ⟨this.2.1, hb⟩

/-- An operation that yields one value, whatever the world. -/
theorem PlanF.det {R : World → World → Prop} {w0 : World} {n : Nat} {F : (Nat → Value) → Act} {o : Oper} {rest : List Oper} {i : Nat} {φs : List (Nat × (Value → World → Prop))} {fs : List Nat} (i' : Nat) (hi : i + 1 = i') (hrf : ∀ x, R x x)
    (h : ∃ c : Value, (∀ vs w, R w0 w → (∀ (k j : Nat) (φ' : Value → World → Prop), φs[k]? = some (j, φ') → waits ops i j = true → φ' (vs j) w) → ∀ K : Value → World → Prop, (∀ v w', R w w' → v = c → K v w') →
      if Region.wanted o (yielded ops (F vs).tmps) then gives P o (F vs) w K else K undef w) ∧ PlanF P ops Q R w0 n F rest i' ((i, fun v _ => v = c) :: φs) fs) :
    PlanF P ops Q R w0 n F (o :: rest) i φs fs := by
  subst hi
  obtain ⟨c, h1, h2⟩ := h
  exact ⟨fun v _ => v = c, false, fun _ _ _ _ h => h, (fun h => by cases h), fun vs w hR hF => StepOfF.of (hrf w) (h1 vs w hR hF) rfl, h2⟩
/-- An operation that yields a value of which φ holds, then and later. -/
theorem PlanF.rel {R : World → World → Prop} {w0 : World} {n : Nat} {F : (Nat → Value) → Act} {o : Oper} {rest : List Oper} {i : Nat} {φs : List (Nat × (Value → World → Prop))} {fs : List Nat} (i' : Nat) (hi : i + 1 = i') (hrf : ∀ x, R x x) (φ : Value → World → Prop)
    (hφ : ∀ v x y, R x y → φ v x → φ v y) (h1 : ∀ vs w, R w0 w → (∀ (k j : Nat) (φ' : Value → World → Prop), φs[k]? = some (j, φ') → waits ops i j = true → φ' (vs j) w) → ∀ K : Value → World → Prop, (∀ v w', R w w' → φ v w' → K v w') →
      if Region.wanted o (yielded ops (F vs).tmps) then gives P o (F vs) w K else K undef w) (h2 : PlanF P ops Q R w0 n F rest i' ((i, φ) :: φs) fs) :
    PlanF P ops Q R w0 n F (o :: rest) i φs fs := by
  subst hi
  exact ⟨φ, false, hφ, (fun h => by cases h), fun vs w hR hF => StepOfF.of (hrf w) (h1 vs w hR hF) rfl, h2⟩
/-- An operation that makes a variable. -/
theorem PlanF.born {R : World → World → Prop} {w0 : World} {n : Nat} {F : (Nat → Value) → Act} {o : Oper} {rest : List Oper} {i : Nat} {φs : List (Nat × (Value → World → Prop))} {fs : List Nat} (i' : Nat) (hi : i + 1 = i') (hgd : o.guard = none) (φ : Value → World → Prop)
    (hφ : ∀ v x y, R x y → φ v x → φ v y) (hne : ∀ v x, φ v x → v ≠ .pointer (some ⟨x.heap.size, 0, none⟩)) (h1 : ∀ vs w, R w0 w → ∀ K : Value → World → Prop, (∀ v w', R w w' → φ v w' → v = .pointer (some ⟨w.heap.size, 0, none⟩) → K v w') → gives P o (F vs) w K)
    (h2 : PlanF P ops Q R w0 n F rest i' ((i, φ) :: φs) (i :: fs)) :
    PlanF P ops Q R w0 n F (o :: rest) i φs fs := by
  subst hi
  refine ⟨φ, true, hφ, fun _ => hne, fun vs w hR hF => ?_, h2⟩
  unfold StepOfF
  have hw : Region.wanted o (yielded ops (F vs).tmps) = true := by unfold Region.wanted; rw [hgd]
  rw [if_pos hw]
  exact h1 vs w hR _ fun v w' h1 h2 h3 => ⟨h1, h2, fun _ => h3⟩
theorem PlanF.nil {R : World → World → Prop} {w0 : World} {n : Nat} {F : (Nat → Value) → Act} {i : Nat} {φs : List (Nat × (Value → World → Prop))} {fs : List Nat}
    (h : ∀ vs w, R w0 w → (∀ (k j : Nat) (φ : Value → World → Prop), φs[k]? = some (j, φ) → φ (vs j) w) → (∀ i j, i ∈ fs → j ∈ fs → i ≠ j → vs i ≠ vs j) → wpList P ops Q (ops.toList.drop n) (F vs) w) : PlanF P ops Q R w0 n F [] i φs fs := h
attribute [irreducible] PlanF
end
end Go.Proofs.YtkinnfejgpnddaaDoor
