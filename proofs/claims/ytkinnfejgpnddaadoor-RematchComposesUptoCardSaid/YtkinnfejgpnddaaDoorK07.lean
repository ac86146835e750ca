/- The program of layer 9: parses sorted, each once. -/
import Derived.Test.YtkinnfejgpnddaaDoorK06
import Derived.Laws.CopyRow
import Derived.Laws.MakeOwn
import Derived.Test.YtkinnfejgpnddaaDoorK01
import Derived.MapKept
import Derived.Test.YtkinnfejgpnddaaDoorK02
import Derived.Deep.MidRow
import Derived.Test.YtkinnfejgpnddaaDoorK03
import Derived.Deep.Cut
namespace Go.Proofs.YtkinnfejgpnddaaDoor
open Go.RowKit
attribute [local go_sem] gives givesUpon

def zval (z : Zel) : Value := .slice z.2.1 z.2.2.1 z.2.2.2
theorem zel_of : ∀ {w : World} (L : List (Parse × Value)), PL w L → ∃ M : List Zel, M.flatMap zcell = L.flatMap pcell ∧ M.map Prod.fst = L.map Prod.fst ∧ ∀ z, z ∈ M → SpQ w (zval z) z.1.2
  | _, [], _ => ⟨[], rfl, rfl, fun _ h => by cases h⟩
  | w, (q, v) :: L, h => by
    obtain ⟨M, h1, h2, h3⟩ := zel_of L (fun x hx => h x (by simp [hx]))
    have h0 : SpQ w v q.2 := h (q, v) (by simp)
    obtain ⟨a, c, rfl⟩ := h0.form
    refine ⟨(q, a, q.2.length, c) :: M, ?_, ?_, fun z hz => ?_⟩
    · rw [List.flatMap_cons, List.flatMap_cons, h1]; rfl
    · rw [List.map_cons, List.map_cons, h2]
    · rcases List.mem_cons.1 hz with rfl | hz
      · exact h0
      · exact h3 z hz
theorem ps_of {w : World} {b c n : Nat} {more : List Value} {M : List Zel} {p : Nat → Prop} (h0 : M ≠ []) (hn : n = M.length) (hp : p b) (hr : Row w b (M.flatMap zcell ++ more) 48) (hs : ∀ z, z ∈ M → SpQ w (zval z) z.1.2) : PsQ p w (.slice (some ⟨b, 0, none⟩) n c) (M.map Prod.fst) := by
  refine .inr ⟨by simpa using h0, b, c, more, M.map (fun z => (z.1, zval z)), by rw [hn, List.length_map], hp, by rw [List.map_map]; rfl, fun x hx => ?_, ?_⟩
  · obtain ⟨z, hz, rfl⟩ := List.mem_map.1 hx
    exact hs z hz
  · have e : (M.map fun z => (z.1, zval z)).flatMap pcell = M.flatMap zcell := by rw [List.flatMap_map]; rfl
    rw [e]; exact hr
theorem zcell_one : ∀ (M : List Zel) (u : Value), u ∈ M.flatMap zcell → u.oneCell' = true := fun M u hu => by
  obtain ⟨z, _, hu⟩ := List.mem_flatMap.1 hu
  simp [zcell] at hu
  rcases hu with rfl | rfl <;> rfl
/-- What a copy of a list of parses is. -/
def CloP (w : World) (M : List Zel) (e : Ending) (w' : World) : Prop := ∃ b c more, e = .returned (.slice (some ⟨b, 0, none⟩) M.length c) ∧ w.heap.size ≤ b ∧ Row w' b (M.flatMap zcell ++ more) 48 ∧ Below w.heap.size w w'
set_option maxRecDepth 100000 in
set_option maxHeartbeats 8000000 in
theorem pclone_nil (w : World) : Calls Tryd.prog 78 #[.slice none 0 0] w fun e w' => e = .returned (.slice none 0 0) ∧ w' = w := by
  have hcmp : ∀ x : World, Sem.run Tryd.prog (binOp .eql 33 (.slice none 0 0) (.slice none 0 0)) x = .ok (.bool true) x := fun x => rfl
  go_enter Tryd.func78, Tryd.ntmps78
  go_wp2_with fail
  go_ret
  exact ⟨rfl, rfl⟩
set_option maxRecDepth 100000 in
set_option maxHeartbeats 8000000 in
theorem pclone_any (w : World) (b c n : Nat) (M : List Zel) (more : List Value) (hn : n = M.length) (h0 : M ≠ []) (hl : n ≤ 200000) (hr : Row w b (M.flatMap zcell ++ more) 48) :
    Calls Tryd.prog 78 #[.slice (some ⟨b, 0, none⟩) n c] w (CloP w M) := by
  obtain ⟨i0, hi, hz0, hz1, hz2⟩ := info_parts info_parse
  have hpos : 0 < n := by rw [hn]; exact List.length_pos_iff.2 h0
  have HR := hid hr
  have HN := hid hn
  clear hr hn h0
  have hcmp : ∀ x : World, Sem.run Tryd.prog (binOp .eql 33 (.slice (some ⟨b, 0, none⟩) n c) (.slice none 0 0)) x = .ok (.bool false) x := fun x => rfl
  go_enter Tryd.func78, Tryd.ntmps78
  go_wp2_with (at_builtin; refine wpList_append_row rfl _ _ 33 rfl w.heap.size 48 i0 (.agg #[.int .i64 0, .slice none 0 0]) 2 32 Tryd.underlying33 hi hz0 hz1 hz2 rfl (by decide) _ 0 [] rfl ?c0 ⟨b, 0, none⟩ n c (M.flatMap zcell) rfl ?c6 ?c1 ?c2 ?c3 ?c4 ?c5 hpos ?_)
  case c0 => exact World.ownsRow_made w #[] 0 (Nat.le_refl _) (by unfold maxLen; omega) rfl
  case c1 =>
    intro j u hj
    rw [Addr.add_lit, Nat.zero_add, (HR.out.alloc _).cell j]
    exact List.getElem?_append_left (List.getElem?_eq_some_iff.1 hj).1 ▸ hj
  case c2 => exact zcell_one M
  case c3 => unfold maxLen; omega
  case c4 => omega
  case c5 => simp
  case c6 => rw [zcells_length, HN.out]
  intro a2 c2 w3 hown hgrow hnw
  have hb3 : Below w.heap.size w w3 := ((Below.refl w.heap.size w).alloc (Nat.le_refl _) _).grown hgrow (by simp) (fun g hg => by simp [Value.ownBlock] at hg; omega)
  have hres : CloP w M (.returned (.slice a2 n c2)) w3 := by
    obtain ⟨_, h1 | ⟨g, cap, cur, hv, hg, hcur, hr⟩⟩ := hown
    · have := h1.2; omega
    · injection hv with e1 e2 e3
      subst e1
      obtain ⟨_, _, _, h4⟩ := hr
      refine ⟨g, c2, cur.toList.drop (n * 2), by rw [HN.out], hg, ?_, hb3⟩
      have e : M.flatMap zcell ++ cur.toList.drop (n * 2) = cur.toList := by
        rw [← h4]
        exact List.take_append_drop _ _
      unfold Row
      rw [e]
      exact hcur
  have HB3 := hid hres
  clear hown hgrow hnw hb3 hres
  go_wp2_with fail
  go_ret
  exact HB3.out
set_option maxRecDepth 100000 in
set_option maxHeartbeats 8000000 in
theorem psorted_any (w : World) (p : Nat → Prop) (v : Value) (l : List Parse) (K : Nat) (h : PsQ p w v l) (hl : l.length ≤ 200000) (hf : ∀ q, q ∈ l → PFine q) (hK : ∀ q, q ∈ l → q.1 ≤ K) (ht : Tabs9 w) :
    Calls Tryd.prog 69 #[v] w (ParP w (fin K l)) := by
  rcases h with ⟨rfl, rfl⟩ | ⟨h0, b, c, more, L, rfl, hp, hL, hPL, hr⟩
  · have HC := hid (pclone_nil w)
    have HS := hid (psortS_nil w)
    have ho := ponce_any w p (.slice none 0 0) [] (.inl ⟨rfl, rfl⟩) (by simp) (fun _ h => by cases h) ht
    have hor : onceR [] = some [] := by unfold onceR; simp [nub, most]
    rw [hor] at ho
    have HO := hid ho
    have hfn : fin K [] = some [] := by
      rw [fin_sort (fun _ h => by cases h)]
      have : sortP K [] = [] := by unfold sortP; simp
      rw [this]
      exact hor
    rw [hfn]
    clear ho hor hfn
    clear ht hf hK hl
    go_enter Tryd.func69, Tryd.ntmps69
    go_wp2_with fail
    refine HC.out.mono ?_
    rintro e z ⟨rfl, rfl⟩
    clear HC
    go_wp2_with fail
    refine HS.out.mono ?_
    rintro e z2 ⟨rfl, rfl⟩
    clear HS
    go_wp2_with fail
    refine HO.out.mono ?_
    rintro e z3 ⟨hb, a2, c2, rfl, h3⟩
    have HB := hid (⟨hb, h3⟩ : _ ∧ _)
    clear hb h3 HO
    go_wp2_with fail
    go_ret
    exact ⟨HB.out.1, a2, c2, rfl, HB.out.2⟩
  · obtain ⟨M, hM1, hM2, hM3⟩ := zel_of L hPL
    rw [← hM1] at hr
    rw [hL] at hM2
    have hlen : l.length = M.length := by rw [← hM2, List.length_map]
    obtain ⟨n, hn⟩ : ∃ n, n = l.length := ⟨_, rfl⟩
    rw [← hn] at hl ⊢
    have hM0 : M ≠ [] := by intro e; rw [e] at hM2; exact h0 hM2.symm
    have HC := hid (pclone_any w b c n M more (hn.trans hlen) hM0 hl hr)
    have HF := hid (⟨hf, hK, hM2, hM3, hM0, hn.trans hlen⟩ : _ ∧ _ ∧ _ ∧ _ ∧ _ ∧ _)
    have HT := hid ht
    clear hf hK hM1 hM2 hM3 hr hlen hn hM0 h0 hL hPL ht
    go_enter Tryd.func69, Tryd.ntmps69
    go_wp2_with fail
    refine HC.out.mono ?_
    rintro e z ⟨b2, c2, more2, rfl, hb2, hr2, hbz⟩
    rw [← HF.out.2.2.2.2.2]
    have hmem : ∀ y, y ∈ M → y.1 ∈ l := fun y hy => by rw [← HF.out.2.2.1]; exact List.mem_map_of_mem hy
    have hk6 : ∀ y, y ∈ M → y.1.1 ≤ 1000000 := fun y hy => (HF.out.1 y.1 (hmem y hy)).2.1
    have HS := hid (psortS_any z b2 n c2 more2 M ⟨hr2, But.refl _ _, HF.out.2.2.2.2.2.symm, hr2.lt⟩ hl hk6)
    have HZ := hid (⟨hb2, hbz, hmem⟩ : _ ∧ _ ∧ _)
    clear hb2 hr2 hbz hmem hk6 HC
    go_wp2_with fail
    refine HS.out.mono ?_
    rintro e z2 ⟨rfl, Y, hz2, hd2, hs2⟩
    simp only [List.nil_append, List.append_nil] at hz2
    have hb2' : Below w.heap.size w z2 := HZ.out.2.1.trans (hz2.2.1.below HZ.out.2.1.size (fun k hk => by rw [List.mem_singleton.1 hk]; exact HZ.out.1))
    have hYM : ∀ y, y ∈ Y → y ∈ M := fun y hy => hs2.symm.mem hy
    have hsort : Y.map Prod.fst = sortP K l := by
      refine sortP_of ?_ (fun e => ?_) (fun q hq => ?_)
      · exact List.pairwise_map.2 (hd2.imp fun {a b} h => by unfold zkey at h; omega)
      · have h5 := hs2 (e : Int)
        rw [← HF.out.2.2.1, List.filter_map, List.filter_map]
        have e1 : ((fun q : Parse => q.1 == e) ∘ Prod.fst) = fun x : Zel => zkey x == (e : Int) := by
          funext x
          show (x.1.1 == e) = ((x.1.1 : Int) == (e : Int))
          rw [Bool.eq_iff_iff]
          simp
          constructor <;> intro h <;> omega
        rw [e1, h5]
      · obtain ⟨y, hy, rfl⟩ := List.mem_map.1 hq
        exact HF.out.2.1 y.1 (HZ.out.2.2 y (hYM y hy))
    have hps : PsQ (fun _ => True) z2 (.slice (some ⟨b2, 0, none⟩) n c2) (Y.map Prod.fst) := by
      refine ps_of (by intro e; have := hs2.length; rw [e] at this; exact HF.out.2.2.2.2.1 (List.eq_nil_of_length_eq_zero this)) (by rw [← hs2.length]; exact HF.out.2.2.2.2.2) trivial hz2.1 (fun y hy => ?_)
      have h6 := HF.out.2.2.2.1 y (hYM y hy)
      exact h6.of fun b3 cs3 hr3 => (hr3.below HZ.out.2.1 hr3.lt).but hz2.2.1 (fun hm3 => by
        have h8 := hr3.lt
        rw [List.mem_singleton.1 hm3] at h8
        have := HZ.out.1
        omega)
    rw [hsort] at hps
    have hfi : fin K l = onceR (sortP K l) := fin_sort HF.out.2.1
    have hsm : ∀ q, q ∈ sortP K l → PFine q := fun q hq => HF.out.1 q (sortP_mem.1 hq).1
    have hsl : (sortP K l).length ≤ 200000 := by rw [← hsort, List.length_map, ← hs2.length, ← HF.out.2.2.2.2.2]; exact hl
    have HO := hid (ponce_any z2 _ _ (sortP K l) hps hsl hsm (HT.out.on hb2'))
    have HB2 := hid hb2'
    have HFI := hid hfi
    clear hz2 hd2 hs2 hb2' hYM hsort hps hfi hsm hsl HS
    go_wp2_with fail
    refine HO.out.mono ?_
    rintro e z3 ⟨hb, hres⟩
    have HB := hid (HB2.out.trans (hb.mono HB2.out.size))
    have hsz := HB2.out.size
    have HRS := hid hres
    clear hb hres HO
    cases hor : onceR (sortP K l) with
    | none =>
      have h2 := HRS.out
      rw [hor] at h2
      subst h2
      refine ⟨rfl, ?_⟩
      rw [HFI.out, hor]
      exact ⟨HB.out, rfl⟩
    | some m =>
      have h2 := HRS.out
      rw [hor] at h2
      obtain ⟨a3, c3, rfl, h3⟩ := h2
      have HOR := hid hor
      have H3 := hid (h3.mono (q := (w.heap.size ≤ ·)) fun b8 _ hb8 => Nat.le_trans hsz hb8)
      clear h3 hor HRS
      go_wp2_with fail
      go_ret
      rw [HFI.out, HOR.out]
      exact ⟨HB.out, a3, c3, rfl, H3.out⟩
end Go.Proofs.YtkinnfejgpnddaaDoor

/- The program of layer 9: a span put into spans. -/
namespace Go.Proofs.YtkinnfejgpnddaaDoor
open Go.RowKit
attribute [local go_sem] gives givesUpon

theorem run_copy_two {P : Program} (w : World) (dT sT ty elem : TypeId) (g dLen dCap : Nat) (a : Addr) (sLen sCap : Nat) (cur : Array Value) (t : TypeId) (cs : List Value)
    (hu : P.underlying dT = some (.slice elem)) (hs : (P.info? elem).map (·.size) = some 2)
    (hg : w.heap[g]? = some (.cells cur t (0, 0))) (hn : cs.length = Nat.min sLen dLen * 2)
    (hsrc : ∀ j v, cs[j]? = some v → w.cell? (a.add j) = some v) (hfit : cs.length ≤ cur.size) (h1 : ∀ v ∈ cs, v.oneCell' = true) :
    (Builtin.copy_ #[dT, sT] ty #[.slice (some ⟨g, 0, none⟩) dLen dCap, .slice (some a) sLen sCap]).run P w =
      .ok (goInt (Nat.min sLen dLen)) (w.setRow g (cur.toList.take 0 ++ cs ++ cur.toList.drop (0 + cs.length)).toArray) := by
  have hl := run_loadCells_list (P := P) w a cs hsrc
  have hst := run_storeCells_at P g 0 t cs 0 cur w hg (by simpa using hfit) h1
  cases hq : P.info? elem with
  | none => simp [hq] at hs
  | some i =>
    have hi : i.size = 2 := by simpa [hq] using hs
    simp [Builtin.copy_, run_underlying hu, Builtin.lenOf, Builtin.firstCells, sizeOf, typeInfo, hq, hi, ← hn, hl]
    simp at hst
    simp [hst]
theorem wpList_copy_two {P : Program} {w : World} {ops : Array Oper} {rest : List Oper} {o : Oper} {a : Act} {Q : Exit → Act → World → Prop} (hgd : o.guard = none) (d s : Operand) (dT sT : TypeId)
    (ho : o.op = .call { callee := .builtin .copy, args := #[d, s], argTypes := #[dT, sT] }) (elem : TypeId) (hu : P.underlying dT = some (.slice elem)) (hsz : (P.info? elem).map (·.size) = some 2)
    (g n dCap : Nat) (ad : Addr) (sCap : Nat) (hd : a.eval d = .slice (some ⟨g, 0, none⟩) n dCap) (hs : a.eval s = .slice (some ad) n sCap)
    (cur : List Value) (t : TypeId) (hg : Row w g cur t) (cs : List Value) (hn : cs.length = n * 2) (hsrc : ∀ j v, cs[j]? = some v → w.cell? (ad.add j) = some v) (hfit : cs.length = cur.length) (h1 : ∀ v ∈ cs, v.oneCell' = true)
    (h : ∀ w', Row w' g cs t → But [g] w w' → wpList P ops Q rest (a.put o.dst (goInt n)) w') : wpList P ops Q (o :: rest) a w := by
  refine wpList_plain hgd fun K hK => ?_
  have hmin : Nat.min n n = n := Nat.min_self n
  have hrun := run_copy_two (P := P) w dT sT o.type elem g n dCap ad n sCap cur.toArray t cs hu hsz hg (by rw [hmin]; exact hn) hsrc (by simp [hfit]) h1
  rw [hmin] at hrun
  have hcs : (cur.toArray.toList.take 0 ++ cs ++ cur.toArray.toList.drop (0 + cs.length)) = cs := by
    rw [List.take_zero, List.nil_append, Nat.zero_add, List.drop_of_length_le (by simp [hfit]), List.append_nil]
  rw [hcs] at hrun
  have hlt := hg.lt
  have hgg : w.heap[g]? = some (.cells cur.toArray t (0, 0)) := hg
  unfold Oper.wp
  simp [execOp, ho, resolve, invoke, builtin, hd, hs, hrun, Result.andThen]
  refine hK _ _ (h _ ?_ ⟨rfl, rfl, rfl, by simp [World.setRow], fun k hk hk2 => ?_⟩)
  · show (w.setRow g cs.toArray).heap[g]? = _
    simp [World.setRow, Array.getElem?_modify, hgg]
  · have hne : g ≠ k := by simpa using Ne.symm (by simpa using hk2)
    simp [World.setRow, Array.getElem?_modify, hne]
set_option maxRecDepth 100000 in
set_option maxHeartbeats 8000000 in
theorem pwith_any (w : World) (sa : Option Addr) (sc : Nat) (sp : Spans) (g : Nat) (x1 x2 : Int) (hsp : SpQ w (.slice sa sp.length sc) sp) (hl : sp.length ≤ 9) (hg : 1 ≤ g ∧ g ≤ sp.length) :
    Calls Tryd.prog 66 #[.slice sa sp.length sc, .int .i64 g, .agg #[.int .i64 x1, .int .i64 x2]] w fun e w' => ∃ a c, e = .returned (.slice a sp.length c) ∧ Below w.heap.size w w' ∧ SpQ w' (.slice a sp.length c) (sp.set (g - 1) (x1, x2)) := by
  obtain ⟨a0, c0, e0, h1 | ⟨b, more, rfl, hr⟩⟩ := hsp
  · subst h1; simp at hg; omega
  obtain ⟨n, hn⟩ : ∃ n, n = sp.length := ⟨_, rfl⟩
  rw [← hn] at hg hl e0 ⊢
  injection e0 with e1 e2 e3
  subst e1; subst e3
  clear e2
  obtain ⟨i0, hi, hz0, hz1, hz2⟩ := info_parts info_span
  have hisz : (Tryd.prog.info? 46).map (·.size) = some 2 := by rw [hi]; simp [hz1]
  have hmk : ∀ y : World, (Instr.makeSlice 39 (.int .i64 (n : Int)) (.int .i64 (n : Int))).run Tryd.prog y = .ok (.slice (some ⟨y.heap.size, 0, none⟩) n n) (y.alloc (.cells (madeCells #[.int .i64 0, .int .i64 0] (n * 2)) 46)) := fun y => by
    have h := run_makeSlice (P := Tryd.prog) y 39 46 i0 _ Tryd.underlying39 hi hz0 .i64 .i64 n n (by omega) (by omega) (by rw [hz1]; simp; omega) (by rw [hz2]; omega) (by omega)
    rw [hz1] at h
    simpa [Value.cells] using h
  obtain ⟨zs, hzs⟩ : ∃ zs : List Value, madeCells #[.int .i64 0, .int .i64 0] (n * 2) = zs.toArray := ⟨(madeCells #[.int .i64 0, .int .i64 0] (n * 2)).toList, by simp⟩
  have hzl : zs.length = n * 2 := by
    have := size_madeCells #[.int .i64 0, .int .i64 0] (n * 2)
    rw [hzs] at this
    simpa using this
  rw [hzs] at hmk
  have HR := hid hr
  have HZ := hid (⟨hzl, hn⟩ : _ ∧ _)
  have hgn : (1 : Int) ≤ (g : Int) ∧ (g : Int) ≤ (n : Int) := by omega
  obtain ⟨q, rfl⟩ : ∃ q, g = q + 1 := ⟨g - 1, by omega⟩
  have hqn : (q : Int) < (n : Int) := by omega
  have hq1 : (1 : Int) ≤ (q : Int) + 1 := by omega
  have hq2 : (q : Int) + 1 ≤ (n : Int) := by omega
  have hwq : IntKind.i64.wrap (q : Int) = (q : Int) := by rw [IntKind.wrap_i64]; omega
  clear hr hn hzl hi hz0 hz1 hz2 hgn
  go_enter Tryd.func66, Tryd.ntmps66
  go_wp2_with (with_reducible refine wpList_copy_two rfl _ _ 39 39 rfl 46 Tryd.underlying39 hisz (w.heap.size + 1) n n ⟨b, 0, none⟩ sc rfl rfl zs 46 ?c0 (spc sp) ?c1 ?c2 ?c3 (spc_one sp) ?_)
  case c0 => exact Row.new (by simp)
  case c1 => rw [spc_length, HZ.out.2]
  case c2 =>
    intro j u hj
    rw [Addr.add_lit, Nat.zero_add, ((HR.out.alloc _).alloc _).cell j]
    exact List.getElem?_append_left (List.getElem?_eq_some_iff.1 hj).1 ▸ hj
  case c3 => rw [spc_length, HZ.out.1, HZ.out.2]
  intro w3 hrow hbut
  have hbox : Row w3 w.heap.size [.int .i64 x1, .int .i64 x2] 46 := (((Row.new (w := w) (cs := [.int .i64 x1, .int .i64 x2]) (T := 46) rfl).alloc (.cells zs.toArray 46))).but hbut (by simp)
  have hb3 : Below w.heap.size w w3 := (((Below.refl w.heap.size w).alloc (Nat.le_refl _) _).alloc (by simp) _).trans (hbut.below (by simp; omega) (fun k hk => by rw [List.mem_singleton.1 hk]; omega))
  have HB3 := hid (⟨hbox, hrow, hb3⟩ : _ ∧ _ ∧ _)
  have q0 := hbox.cell 0
  have q1 := hbox.cell 1
  have hql : q < sp.length := by have := HZ.out.2; omega
  obtain ⟨g1, g2⟩ := spc_get sp q sp[q] (List.getElem?_eq_getElem hql)
  rw [show 2 * q = q * 2 by omega] at g1 g2
  have q3 := (hrow.cell (q * 2)).trans g1
  have q4 := (hrow.cell (q * 2 + 1)).trans g2
  have f0 := hrow.free (q * 2)
  have f1 := hrow.free (q * 2 + 1)
  have hres : Below w.heap.size w ((w3.setCell ⟨w.heap.size + 1, q * 2, none⟩ (.int .i64 x1)).setCell ⟨w.heap.size + 1, q * 2 + 1, none⟩ (.int .i64 x2)) ∧ SpQ ((w3.setCell ⟨w.heap.size + 1, q * 2, none⟩ (.int .i64 x1)).setCell ⟨w.heap.size + 1, q * 2 + 1, none⟩ (.int .i64 x2)) (.slice (some ⟨w.heap.size + 1, 0, none⟩) n n) (sp.set q (x1, x2)) := by
    refine ⟨(hb3.setCell (by simp) _).setCell (by simp) _, _, _, by rw [List.length_set, ← HZ.out.2], .inr ⟨_, [], rfl, ?_⟩⟩
    have h5 := (hrow.set (q * 2) (.int .i64 x1)).set (q * 2 + 1) (.int .i64 x2)
    rw [List.append_nil, spc_set, show 2 * q = q * 2 by omega]
    exact h5
  have HRES := hid hres
  clear hbox hrow hb3 hbut g1 g2 hres
  generalize sp[q].1 = o0 at q3
  generalize sp[q].2 = o1 at q4
  clear hql
  go_wp2_with fail
  go_ret
  exact ⟨_, _, rfl, HRES.out.1, by simpa using HRES.out.2⟩
end Go.Proofs.YtkinnfejgpnddaaDoor

/- Maps with int keys: what a look-up gives, and what a store leaves. Nothing here speaks of the program. -/
namespace Go.Proofs.YtkinnfejgpnddaaDoor
open Go.RowKit

def keyIs (k : Int) (e : MapEntry) : Bool := match e.key with | .int .i64 k' => k == k' | _ => false
def findE (k : Int) : List MapEntry → Option Value
  | [] => none
  | e :: es => if keyIs k e then some e.val else findE k es
/-- Block M is a map with int keys, whose element at k is f k. -/
def IMap (w : World) (M : Nat) (f : Int → Option Value) : Prop :=
  ∃ es clock, w.heap[M]? = some (.map es clock) ∧ (∀ e, e ∈ es.toList → ∃ k, e.key = .int .i64 k) ∧ ∀ k, f k = findE k es.toList

theorem IMap.lt {w : World} {M : Nat} {f : Int → Option Value} (h : IMap w M f) : M < w.heap.size := by
  obtain ⟨es, c, h1, _⟩ := h
  rcases Nat.lt_or_ge M w.heap.size with h2 | h2
  · exact h2
  · simp [Array.getElem?_eq_none h2] at h1
theorem IMap.of_block {w w' : World} {M : Nat} {f : Int → Option Value} (h : IMap w M f) (hb : w'.heap[M]? = w.heap[M]?) : IMap w' M f := by
  obtain ⟨es, c, h1, h2⟩ := h
  exact ⟨es, c, hb.trans h1, h2⟩
theorem IMap.but {S : List Nat} {w w' : World} {M : Nat} {f : Int → Option Value} (h : IMap w M f) (hb : But S w w') (hM : M ∉ S) : IMap w' M f := h.of_block (hb.block M h.lt hM)
theorem IMap.below {n : Nat} {w w' : World} {M : Nat} {f : Int → Option Value} (h : IMap w M f) (hb : Below n w w') (hM : M < n) : IMap w' M f := h.of_block (hb.block M hM)
theorem IMap.alloc {w : World} {M : Nat} {f : Int → Option Value} (h : IMap w M f) (o : Obj) : IMap (w.alloc o) M f := h.of_block (Below.heap_alloc _ _ _ h.lt)
theorem IMap.drew {w : World} {M : Nat} {f : Int → Option Value} (h : IMap w M f) : IMap w.drew M f := h
theorem IMap.new {w : World} {M : Nat} (h : M = w.heap.size) : IMap (w.alloc (.map #[] 0)) M (fun _ => none) := by
  subst h
  exact ⟨#[], 0, by show (w.heap.push _)[w.heap.size]? = _; simp, by simp, fun k => rfl⟩
theorem IMap.other {w : World} {M B : Nat} {f : Int → Option Value} (h : IMap w M f) (hn : M ≠ B) (j : Nat) (v : Value) : IMap (w.setCell ⟨B, j, none⟩ v) M f := h.of_block (Below.heap_setCell _ _ _ _ hn)

theorem findNow_int (k : Int) : ∀ (es : List MapEntry) (i : Nat), (∀ e, e ∈ es → ∃ k, e.key = .int .i64 k) →
    ∃ r, Instr.findNow (.int .i64) (.int .i64 k) es i = some r ∧ r.map (·.2) = findE k es ∧ ∀ j v, r = some (j, v) → i ≤ j ∧ ∃ e, es[j - i]? = some e ∧ e.key = .int .i64 k ∧ e.val = v ∧ ∀ m, m < j - i → ∀ e', es[m]? = some e' → keyIs k e' = false
  | [], i, _ => ⟨none, rfl, rfl, fun _ _ h => by cases h⟩
  | e :: es, i, h => by
    obtain ⟨k', hk'⟩ := h e (by simp)
    obtain ⟨r, h1, h2, h3⟩ := findNow_int k es (i + 1) (fun e he => h e (by simp [he]))
    by_cases hkk : k = k'
    · subst hkk
      refine ⟨some (i, e.val), by simp [Instr.findNow, hk', Instr.sameNow], by simp [findE, keyIs, hk'], fun j v hj => ?_⟩
      simp only [Option.some.injEq, Prod.mk.injEq] at hj
      obtain ⟨rfl, rfl⟩ := hj
      exact ⟨Nat.le_refl _, e, by simp, hk', rfl, fun m hm => by omega⟩
    · have hb : (k == k') = false := by simpa using hkk
      refine ⟨r, by simp [Instr.findNow, hk', Instr.sameNow, hb, h1], by simp [findE, keyIs, hk', hb, h2], fun j v hj => ?_⟩
      obtain ⟨h4, e', h5, h6, h7, h8⟩ := h3 j v hj
      refine ⟨by omega, e', ?_, h6, h7, fun m hm e'' he'' => ?_⟩
      · rw [show j - i = (j - (i + 1)) + 1 by omega]; simpa using h5
      · cases m with
        | zero => simp at he''; subst he''; simp [keyIs, hk', hb]
        | succ m => exact h8 m (by omega) e'' (by simpa using he'')

section
variable {P : Program}
theorem IMap.run_lookup {w : World} {M : Nat} {f : Int → Option Value} (h : IMap w M f) (T K E : TypeId) (hT : P.underlying T = some (.map K E)) (hK : P.underlying K = some (.int .i64)) (z : Value) (hz : (zeroValue E).run P w = .ok z w) (k : Int) :
    (Instr.lookup T (.map (some M)) (.int .i64 k) false).run P w = .ok ((f k).getD z) w := by
  obtain ⟨es, c, h1, h2, h3⟩ := h
  obtain ⟨r, h4, h5, _⟩ := findNow_int k es.toList 0 h2
  have hck : (Instr.checkKey es.isEmpty 10000 K (.int .i64 k)).run P w = .ok () w := by
    unfold Instr.checkKey
    simp [run_underlying hK]
  have hfk : (Instr.findKey K (.int .i64 k) es.toList).run P w = .ok r w := by
    simp [Instr.findKey, run_underlying hK, h4]
  rw [h3 k, ← h5]
  cases r with
  | none => simp [Instr.lookup, run_underlying hT, MapKept.run_getObj_map h1, hck, hfk, hz, Result.andThen]
  | some p => simp [Instr.lookup, run_underlying hT, MapKept.run_getObj_map h1, hck, hfk, Result.andThen]

theorem findE_append (k : Int) (e : MapEntry) : ∀ es : List MapEntry, findE k (es ++ [e]) = match findE k es with | some v => some v | none => if keyIs k e then some e.val else none
  | [] => by simp [findE]
  | e' :: es => by
    simp only [List.cons_append, findE]
    split
    · rfl
    · exact findE_append k e es
theorem findE_modify (k k' : Int) (v : Value) (key : Value) (hkey : key = .int .i64 k) : ∀ (es : List MapEntry) (j : Nat), (∃ e, es[j]? = some e ∧ e.key = .int .i64 k) → (∀ m, m < j → ∀ e', es[m]? = some e' → keyIs k e' = false) →
    findE k' (es.modify j fun e => { e with key, val := v }) = if k' = k then some v else findE k' es
  | [], j, h, _ => by obtain ⟨e, h, _⟩ := h; simp at h
  | e :: es, 0, h, _ => by
    obtain ⟨e0, h0, h1⟩ := h
    simp at h0; subst h0
    simp only [List.modify_zero_cons, findE]
    have e1 : keyIs k' { e with key, val := v } = decide (k' = k) := by simp [keyIs, hkey]; rfl
    have e2 : keyIs k' e = decide (k' = k) := by simp [keyIs, h1]; rfl
    rw [e1, e2]
    by_cases hk : k' = k <;> simp [hk]
  | e :: es, j + 1, h, hm => by
    have ih := findE_modify k k' v key hkey es j (by simpa using h) (fun m hmj e' he' => hm (m + 1) (by omega) e' (by simpa using he'))
    have h0 := hm 0 (by omega) e rfl
    simp only [List.modify_succ_cons, findE]
    rw [ih]
    by_cases hk : k' = k
    · subst hk; simp [h0]
    · simp [hk]

theorem IMap.run_update {w : World} {M : Nat} {f : Int → Option Value} (h : IMap w M f) (T K E : TypeId) (hT : P.underlying T = some (.map K E)) (hK : P.underlying K = some (.int .i64)) (k : Int) (v : Value) :
    ∃ w', (Instr.mapUpdate T (.map (some M)) (.int .i64 k) v).run P w = .ok () w' ∧ IMap w' M (fun x => if x = k then some v else f x) ∧ But [M] w w' := by
  have hlt := h.lt
  obtain ⟨es, c, h1, h2, h3⟩ := h
  obtain ⟨r, h4, h5, h6⟩ := findNow_int k es.toList 0 h2
  have hck : (Instr.checkKey false 10000 K (.int .i64 k)).run P w = .ok () w := by
    unfold Instr.checkKey
    simp [run_underlying hK]
  have hfk : (Instr.findKey K (.int .i64 k) es.toList).run P w = .ok r w := by
    simp [Instr.findKey, run_underlying hK, h4]
  have hbut : ∀ o : Obj, But [M] w { w with heap := w.heap.setIfInBounds M o } := fun o => ⟨rfl, rfl, rfl, by simp, fun i hi hn => by
    have : M ≠ i := by simpa using Ne.symm (by simpa using hn)
    simp [this]⟩
  cases r with
  | none =>
    refine ⟨{ w with heap := w.heap.setIfInBounds M (.map (es.push { key := .int .i64 k, val := v, born := c }) (c + 1)) }, by simp [Instr.mapUpdate, run_underlying hT, MapKept.run_getObj_map h1, hck, hfk, MapKept.run_setObj_map _ h1, Result.andThen], ⟨es.push { key := .int .i64 k, val := v, born := c }, c + 1, by simp [hlt], ?_, ?_⟩, hbut _⟩
    · intro e he
      simp at he
      rcases he with he | he
      · exact h2 e (by simpa using he)
      · subst he; exact ⟨k, rfl⟩
    · intro x
      simp only [Array.toList_push, findE_append]
      have h7 := h3 k
      rw [← h5] at h7
      by_cases hx : x = k
      · subst hx
        rw [← h3 x, h7]
        simp [keyIs]
      · rw [← h3 x]
        have : keyIs x { key := .int .i64 k, val := v, born := c } = false := by simp [keyIs, hx]
        rw [this]
        cases f x <;> simp [hx]
  | some p =>
    obtain ⟨j, v0⟩ := p
    obtain ⟨_, e, h7, h8, h9, h10⟩ := h6 j v0 rfl
    simp only [Nat.sub_zero] at h7 h10
    have hstay : (Instr.keyThatStays (((es[j]?).map (·.key)).getD (.int .i64 k)) (.int .i64 k)).run P w = .ok (.int .i64 k) w := by
      have : es[j]? = some e := by simpa using h7
      simp [this, h8, Instr.keyThatStays, Instr.sameBits]
    refine ⟨{ w with heap := w.heap.setIfInBounds M (.map (es.modify j fun e => { e with key := .int .i64 k, val := v }) c) }, by simp only [Instr.mapUpdate, Sem.run_bind, run_underlying hT, MapKept.run_getObj_map h1, hck, hfk, Result.andThen_ok, hstay, MapKept.run_setObj_map _ h1], ⟨es.modify j fun e => { e with key := .int .i64 k, val := v }, c, by simp [hlt], ?_, ?_⟩, hbut _⟩
    · intro e' he'
      obtain ⟨m, hm⟩ := List.mem_iff_getElem?.1 he'
      rw [Array.getElem?_toList, Array.getElem?_modify] at hm
      by_cases hjm : j = m
      · subst hjm
        rw [if_pos rfl] at hm
        obtain ⟨e0, _, rfl⟩ := Option.map_eq_some_iff.1 hm
        exact ⟨k, rfl⟩
      · rw [if_neg hjm] at hm
        exact h2 e' (List.mem_iff_getElem?.2 ⟨m, by simpa using hm⟩)
    · intro x
      rw [Array.toList_modify, findE_modify k x v _ rfl _ _ ⟨e, h7, h8⟩ h10]
      by_cases hx : x = k
      · simp [hx]
      · simp [hx, h3 x]

theorem wpList_update_imap {ops : Array Oper} {rest : List Oper} {o : Oper} {a : Act} {w : World} {Q : Exit → Act → World → Prop} (hgd : o.guard = none) (T : TypeId) (x y z : Operand) (ho : o.op = .mapUpdate T x y z) (M : Nat) (f : Int → Option Value) (h : IMap w M f)
    (hx : a.eval x = .map (some M)) (k : Int) (hy : a.eval y = .int .i64 k) (v : Value) (hz : a.eval z = v) (K E : TypeId) (hT : P.underlying T = some (.map K E)) (hK : P.underlying K = some (.int .i64))
    (hn : ∀ w', IMap w' M (fun x => if x = k then some v else f x) → But [M] w w' → wpList P ops Q rest (a.put o.dst undef) w') : wpList P ops Q (o :: rest) a w := by
  refine wpList_plain hgd fun K' hK' => ?_
  obtain ⟨w', h1, h2, h3⟩ := h.run_update T K E hT hK k v
  unfold Oper.wp
  simp [execOp, ho, hx, hy, hz, h1, Result.andThen]
  exact hK' _ _ (hn w' h2 h3)
end
end Go.Proofs.YtkinnfejgpnddaaDoor

/- Trees that a call builds: what is read of a tree whatever the other blocks are; slices of trees of the call's own. -/
namespace Go.Proofs.YtkinnfejgpnddaaDoor
open Go.RowKit

/-- The cells cs read as the tree in every world that has the blocks of S as w has them. -/
def Re.InS (S : Nat → Prop) (w : World) (t : Re) (cs : List Value) : Prop := ∀ x : World, w.heap.size ≤ x.heap.size → (∀ k, S k → k < w.heap.size → x.heap[k]? = w.heap[k]?) → t.In x cs

theorem Re.InS.self {S : Nat → Prop} {w : World} {t : Re} {cs : List Value} (h : t.InS S w cs) : t.In w cs := h w (Nat.le_refl _) fun _ _ _ => rfl
theorem Re.InS.step {S S' : Nat → Prop} {w w' : World} {t : Re} {cs : List Value} (h : t.InS S w cs) (hs : w.heap.size ≤ w'.heap.size) (hk : ∀ k, S k → k < w.heap.size → S' k ∧ w'.heap[k]? = w.heap[k]?) : t.InS S' w' cs :=
  fun x h1 h2 => h x (Nat.le_trans hs h1) fun k h3 h4 => (h2 k (hk k h3 h4).1 (Nat.lt_of_lt_of_le h4 hs)).trans (hk k h3 h4).2
theorem Re.InS.mono {S S' : Nat → Prop} {w : World} {t : Re} {cs : List Value} (h : t.InS S w cs) (hs : ∀ k, S k → S' k) : t.InS S' w cs := h.step (Nat.le_refl _) fun k hk _ => ⟨hs k hk, rfl⟩
theorem Re.InS.below {S : Nat → Prop} {w w' : World} {t : Re} {cs : List Value} (h : t.InS S w cs) (hb : Below w.heap.size w w') : t.InS S w' cs := h.step hb.size fun k hS hk => ⟨hS, hb.block k hk⟩
theorem Re.InS.but {S : Nat → Prop} {Bs : List Nat} {w w' : World} {t : Re} {cs : List Value} (h : t.InS S w cs) (hb : But Bs w w') (hS : ∀ k, S k → k ∉ Bs) : t.InS S w' cs := h.step hb.size fun k hk hl => ⟨hk, hb.block k hl (hS k hk)⟩

mutual
theorem Re.In.same {w x : World} (hk : ∀ k, k < w.heap.size → x.heap[k]? = w.heap[k]?) : ∀ {t : Re} {cs : List Value}, t.In w cs → t.In x cs
  | .mk p xs, cs, h => by
    rw [Re.In] at h ⊢
    obtain ⟨ad, cap, h1, h2, h3, h4, h5, h6⟩ := h
    exact ⟨ad, cap, h1, h2, h3, h4, h5, Re.AllIn.same hk h6⟩
theorem Re.AllIn.same {w x : World} (hk : ∀ k, k < w.heap.size → x.heap[k]? = w.heap[k]?) : ∀ {xs : List Re} {ad : Option Addr} {k : Nat}, Re.AllIn w xs ad k → Re.AllIn x xs ad k
  | [], ad, k, h => by rw [Re.AllIn]; trivial
  | t :: ts, ad, k, h => by
    rw [Re.AllIn] at h ⊢
    obtain ⟨⟨b, o, cs, h1, h2, h3⟩, h4⟩ := h
    refine ⟨⟨b, o, cs, h1, fun j v hj => ?_, Re.In.same hk h3⟩, Re.AllIn.same hk h4⟩
    have hn : cs ≠ [] := by rintro rfl; simp at hj
    rw [World.cell?_of_block (hk b (h2.block hn))]
    exact h2 j v hj
end
theorem Re.In.all {w : World} {t : Re} {cs : List Value} (h : t.In w cs) : t.InS (fun _ => True) w cs := fun _ _ h2 => h.same fun k hk => h2 k trivial hk

/-- The slice value v owns the trees of L; their own blocks lie in S, none of them the slice's. -/
def OwnRes (w : World) (base : Nat) (S : Nat → Prop) (v : Value) (L : List (Re × List Value)) : Prop :=
  w.ownsRow base 28 9 v L.length (L.flatMap Prod.snd) ∧ ∀ e, e ∈ L → e.1.InS (fun k => S k ∧ v.ownBlock ≠ some k) w e.2

theorem OwnRes.nil (w : World) (base : Nat) (S : Nat → Prop) : OwnRes w base S (.slice none 0 0) [] := ⟨World.ownsRow_nil _ _ _ _, fun _ h => by cases h⟩
theorem OwnRes.lt {w : World} {base : Nat} {S : Nat → Prop} {v : Value} {L : List (Re × List Value)} (h : OwnRes w base S v L) : ∀ g, v.ownBlock = some g → base ≤ g ∧ g < w.heap.size := World.ownsRow.lt h.1
theorem OwnRes.below {w w' : World} {base : Nat} {S : Nat → Prop} {v : Value} {L : List (Re × List Value)} (h : OwnRes w base S v L) (hb : Below w.heap.size w w') : OwnRes w' base S v L :=
  ⟨World.ownsRow.kept h.1 (row := none) ⟨hb.os, hb.tape, hb.output, hb.size, fun j hj _ => hb.block j hj⟩ (by
    cases hv : v.ownBlock with
    | none => exact .inl rfl
    | some g => exact .inr (fun e => by cases e)), fun e he => (h.2 e he).below hb⟩
/-- Other blocks turn: not the slice's own, and none of S. -/
theorem OwnRes.but {w w' : World} {base M : Nat} {S : Nat → Prop} {v : Value} {L : List (Re × List Value)} (h : OwnRes w base S v L) (hb : But [M] w w') (hv : ∀ g, v.ownBlock = some g → g ≠ M) (hM : ¬ S M) : OwnRes w' base S v L :=
  ⟨World.ownsRow.kept h.1 (row := some M) ⟨hb.os, hb.tape, hb.output, hb.size, fun j hj hn => hb.block j hj (by simp; intro e; exact hn (by rw [e]))⟩ (by
    cases hg : v.ownBlock with
    | none => exact .inl rfl
    | some g => exact .inr (fun e => hv g hg (Option.some.inj e))), fun e he => (h.2 e he).but hb (fun k hk => by simp; rintro rfl; exact hM hk.1)⟩
theorem OwnRes.alloc {w : World} {base : Nat} {S : Nat → Prop} {v : Value} {L : List (Re × List Value)} (h : OwnRes w base S v L) (o : Obj) : OwnRes (w.alloc o) base S v L :=
  h.below ((Below.refl _ w).alloc (Nat.le_refl _) o)
theorem OwnRes.mono {w : World} {base : Nat} {S S' : Nat → Prop} {v : Value} {L : List (Re × List Value)} (h : OwnRes w base S v L) (hs : ∀ k, S k → S' k) : OwnRes w base S' v L := ⟨h.1, fun e he => (h.2 e he).mono fun k hk => ⟨hs k hk.1, hk.2⟩⟩
theorem OwnRes.form {w : World} {base : Nat} {S : Nat → Prop} {v : Value} {L : List (Re × List Value)} (h : OwnRes w base S v L) : ∃ a c, v = .slice a L.length c := ownsRow_shape h.1
/-- What an append leaves behind. -/
theorem OwnRes.push {w w' : World} {base : Nat} {S : Nat → Prop} {a a' : Option Addr} {n n' c c' : Nat} {L : List (Re × List Value)} {t : Re} {cs : List Value} (h : OwnRes w base S (.slice a n c) L) (hn : n' = L.length + 1)
    (ho : w'.ownsRow base 28 9 (.slice a' n' c') n' (L.flatMap Prod.snd ++ cs)) (hg : w.grownBy w' (Value.slice a n c).ownBlock) (hnew : ∀ g, (Value.slice a' n' c').ownBlock = some g → (Value.slice a n c).ownBlock = some g ∨ w.heap.size ≤ g)
    (ht : t.InS (fun k => S k ∧ (Value.slice a n c).ownBlock ≠ some k) w cs) : OwnRes w' base S (.slice a' n' c') (L ++ [(t, cs)]) := by
  subst hn
  refine ⟨by simpa [List.flatMap_append] using ho, fun e he => ?_⟩
  have key : ∀ (t : Re) (cs : List Value), t.InS (fun k => S k ∧ (Value.slice a n c).ownBlock ≠ some k) w cs → t.InS (fun k => S k ∧ (Value.slice a' (L.length + 1) c').ownBlock ≠ some k) w' cs := by
    intro t cs hh
    refine hh.step hg.size fun k hk hl => ⟨⟨hk.1, fun e2 => ?_⟩, hg.block k hl (fun e2 => hk.2 e2.symm)⟩
    rcases hnew k e2 with h3 | h3
    · exact hk.2 h3
    · omega
  rcases List.mem_append.1 he with he | he
  · exact key _ _ (h.2 e he)
  · rw [List.mem_singleton.1 he]; exact key _ _ ht

theorem flat9 : ∀ (L : List (Re × List Value)) (_ : ∀ e, e ∈ L → e.2.length = 9) (i : Nat) (e : Re × List Value) (j : Nat), L[i]? = some e → j < 9 → (L.flatMap Prod.snd)[i * 9 + j]? = e.2[j]?
  | [], _, i, e, j, h, _ => by simp at h
  | a :: L, hl, i, e, j, h, hj => by
    have ha := hl a (by simp)
    cases i with
    | zero =>
      simp at h
      subst h
      rw [List.flatMap_cons, Nat.zero_mul, Nat.zero_add, List.getElem?_append_left (by omega)]
    | succ i =>
      rw [List.flatMap_cons, List.getElem?_append_right (by omega)]
      have : (i + 1) * 9 + j - a.2.length = i * 9 + j := by omega
      rw [this]
      exact flat9 L (fun e he => hl e (by simp [he])) i e j (by simpa using h) hj

theorem AllIn_of (x : World) (g : Nat) : ∀ (L : List (Re × List Value)) (k : Nat), (∀ (i : Nat) (e : Re × List Value), L[i]? = some e → CellsAt x g (k + i * 9) e.2 ∧ e.1.In x e.2) → Re.AllIn x (L.map Prod.fst) (some ⟨g, 0, none⟩) k
  | [], k, _ => by simp [Re.AllIn]
  | e :: L, k, h => by
    rw [List.map_cons, Re.AllIn]
    have h0 := h 0 e rfl
    exact ⟨⟨g, 0, e.2, rfl, by simpa using h0.1, h0.2⟩, AllIn_of x g L (k + 9) fun i e' hi => by
      have h1 := h (i + 1) e' (by simpa using hi)
      exact ⟨by rw [show k + 9 + i * 9 = k + (i + 1) * 9 by omega]; exact h1.1, h1.2⟩⟩

/-- The node over what is owned. -/
theorem OwnRes.node {w : World} {base : Nat} {S : Nat → Prop} {v : Value} {L : List (Re × List Value)} (h : OwnRes w base S v L) (hb : ∀ k, base ≤ k → S k) (p : Pay) (hp : p.wf) : (Re.mk p (L.map Prod.fst)).InS S w (p.cells v) := by
  intro x h1 h2
  rw [Re.In]
  have hlen : (L.map Prod.fst).length = L.length := by simp
  have hel : ∀ e, e ∈ L → e.1.In x e.2 := fun e he => h.2 e he x h1 fun k hk hl => h2 k hk.1 hl
  rcases h.1.2 with ⟨rfl, h0⟩ | ⟨g, cap, cur, rfl, hg, hcur, hnc, hcm, hsz, hx⟩
  · have : L = [] := List.length_eq_zero_iff.1 h0
    subst this
    exact ⟨none, 0, by simp, hp, Nat.le_refl _, Nat.zero_le _, fun _ => rfl, by simp [Re.AllIn]⟩
  · refine ⟨some ⟨g, 0, none⟩, cap, by rw [hlen], hp, by rw [hlen]; exact hnc, hcm, fun e => (by cases e), AllIn_of x g L 0 fun i e hi => ⟨fun j u hj => ?_, hel e (List.mem_of_getElem? hi)⟩⟩
    have h9 : ∀ e, e ∈ L → e.2.length = 9 := fun e he => (hel e he).nine
    have hj9 : j < 9 := by
      have := h9 e (List.mem_of_getElem? hi)
      have := (List.getElem?_eq_some_iff.1 hj).1
      omega
    have hil : i < L.length := (List.getElem?_eq_some_iff.1 hi).1
    have hgl : g < w.heap.size := (h.lt g rfl).2
    rw [World.cell?_of_block (h2 g (hb g hg) hgl), Nat.zero_add, World.ownsRow.cellAt h.1 (i * 9 + j) (by omega), flat9 L h9 i e j hi hj9, hj]
/-- An element of what is owned. -/
theorem OwnRes.elem {w : World} {base : Nat} {S : Nat → Prop} {v : Value} {L : List (Re × List Value)} (h : OwnRes w base S v L) (i : Nat) (e : Re × List Value) (hi : L[i]? = some e) : ∃ g c, v = .slice (some ⟨g, 0, none⟩) L.length c ∧ base ≤ g ∧ g < w.heap.size ∧ L.length ≤ c ∧ CellsAt w g (i * 9) e.2 := by
  have hil : i < L.length := (List.getElem?_eq_some_iff.1 hi).1
  rcases h.1.2 with ⟨_, h0⟩ | ⟨g, cap, cur, rfl, hg, hcur, hnc, hcm, hsz, hx⟩
  · omega
  · refine ⟨g, cap, rfl, hg, (h.lt g rfl).2, hnc, fun j u hj => ?_⟩
    have h9 : ∀ e, e ∈ L → e.2.length = 9 := fun e he => (h.2 e he).self.nine
    have hj9 : j < 9 := by
      have := h9 e (List.mem_of_getElem? hi)
      have := (List.getElem?_eq_some_iff.1 hj).1
      omega
    rw [World.ownsRow.cellAt h.1 (i * 9 + j) (by omega), flat9 L h9 i e j hi hj9, hj]
theorem Re.cells_shape {w : World} {t : Re} {cs : List Value} (h : t.In w cs) : ∃ (p : Pay) (ad : Option Addr) (n c : Nat), cs = [.int .i64 p.op, .int .u64 p.set.a, .int .u64 p.set.b, .int .u64 p.set.c, .int .u64 p.set.d, .int .i64 p.lo, .int .i64 p.hi, .int .i64 p.gr, .slice ad n c] := by
  cases t with
  | mk p xs => rw [Re.In] at h; obtain ⟨ad, cap, rfl, _⟩ := h; exact ⟨p, ad, _, cap, rfl⟩
/-- A row of the same tree, n times. -/
theorem OwnRes.same {w : World} {base n B : Nat} {S : Nat → Prop} {t : Re} {cs : List Value} {M : List Value} (hr : Row w B M 28) (hb : base ≤ B) (hn : n ≤ maxLen) (hM : M = (List.replicate n cs).flatten) (ht : t.InS (fun k => S k ∧ k ≠ B) w cs) :
    OwnRes w base S (.slice (some ⟨B, 0, none⟩) n n) (List.replicate n (t, cs)) := by
  have h9 := ht.self.nine
  have hf : (List.replicate n (t, cs)).flatMap Prod.snd = (List.replicate n cs).flatten := by
    rw [List.flatMap_def, List.map_replicate]
  have hl : (List.replicate n cs).flatten.length = n * 9 := by
    rw [List.length_flatten, List.map_replicate, List.sum_replicate_nat, h9]
  refine ⟨⟨by rw [hf, hl]; simp, .inr ⟨B, n, M.toArray, by simp, hb, hr, by simp, hn, by simp [hM, hl], by rw [hf, hM, List.length_replicate, ← hl]; exact List.take_length⟩⟩, fun e he => ?_⟩
  obtain rfl := (List.eq_of_mem_replicate he)
  exact ht.step (Nat.le_refl _) fun k hk _ => ⟨⟨hk.1, fun e2 => by simp [Value.ownBlock] at e2; exact hk.2 e2.symm⟩, rfl⟩

theorem Row.setCells {T : TypeId} {B : Nat} : ∀ (vs : List Value) (o : Nat) (w : World) (M : List Value), Row w B M T → ∃ M', Row (w.setCells B o vs) B M' T ∧ M'.length = M.length
  | [], o, w, M, h => ⟨M, h, rfl⟩
  | v :: r, o, w, M, h => by
    obtain ⟨M', h1, h2⟩ := Row.setCells r (o + 1) _ _ (h.set o v)
    exact ⟨M', h1, by simpa using h2⟩
theorem But.setCells {S : List Nat} {B : Nat} {a : World} (hB : B ∈ S ∨ a.heap.size ≤ B) : ∀ (vs : List Value) (o : Nat) (w : World), But S a w → But S a (w.setCells B o vs)
  | [], _, _, h => h
  | v :: r, o, _, h => But.setCells hB r (o + 1) _ (h.setCell hB v)
theorem Row.there {w : World} {B : Nat} {M : List Value} {T : TypeId} (h : Row w B M T) (o n : Nat) (hl : o + n ≤ M.length) : w.there B o n := fun j hj => ⟨by rw [h.cell, List.getElem?_eq_getElem (by omega)]; rfl, h.free _⟩
theorem Row.full {w : World} {B : Nat} {M M' : List Value} {T : TypeId} (h : Row w B M T) (hl : M.length = M'.length) (hr : w.rangeAt B 0 M') : M = M' := by
  apply List.ext_getElem? ; intro j
  rcases Nat.lt_or_ge j M'.length with hj | hj
  · have h1 := hr j _ (List.getElem?_eq_getElem hj)
    rw [Nat.zero_add, h.cell] at h1
    rw [h1, List.getElem?_eq_getElem hj]
  · rw [List.getElem?_eq_none (by omega), List.getElem?_eq_none hj]
/-- The whole block anew. -/
theorem Row.anew {w : World} {B : Nat} {M M' : List Value} {T : TypeId} (h : Row w B M T) (hl : M.length = M'.length) : Row (w.setCells B 0 M') B M' T := by
  obtain ⟨M2, h1, h2⟩ := h.setCells M' 0
  have h3 := World.rangeAt_setCells_same w B 0 M' (h.there 0 M'.length (by omega))
  rwa [h1.full (by omega) h3] at h1
theorem Row.set9 {w : World} {B : Nat} {a b c d e f g i j : Value} {T : TypeId} (h : Row w B [a, b, c, d, e, f, g, i, j] T) (a' b' c' d' e' f' g' i' j' : Value) : Row (((((((((w.setCell ⟨B, 0, none⟩ a').setCell ⟨B, 1, none⟩ b').setCell ⟨B, 2, none⟩ c').setCell ⟨B, 3, none⟩ d').setCell ⟨B, 4, none⟩ e').setCell ⟨B, 5, none⟩ f').setCell ⟨B, 6, none⟩ g').setCell ⟨B, 7, none⟩ i').setCell ⟨B, 8, none⟩ j') B [a', b', c', d', e', f', g', i', j'] T :=
  ((((((((h.set 0 _).set 1 _).set 2 _).set 3 _).set 4 _).set 5 _).set 6 _).set 7 _).set 8 _
theorem below9 {n : Nat} {w x : World} {B : Nat} (h : Below n w x) (hB : n ≤ B) (a' b' c' d' e' f' g' i' j' : Value) : Below n w (((((((((x.setCell ⟨B, 0, none⟩ a').setCell ⟨B, 1, none⟩ b').setCell ⟨B, 2, none⟩ c').setCell ⟨B, 3, none⟩ d').setCell ⟨B, 4, none⟩ e').setCell ⟨B, 5, none⟩ f').setCell ⟨B, 6, none⟩ g').setCell ⟨B, 7, none⟩ i').setCell ⟨B, 8, none⟩ j') :=
  ((((((((h.setCell hB _).setCell hB _).setCell hB _).setCell hB _).setCell hB _).setCell hB _).setCell hB _).setCell hB _).setCell hB _
theorem But.set9 {S : List Nat} {w x : World} {B : Nat} (h : But S w x) (hB : B ∈ S ∨ w.heap.size ≤ B) (a' b' c' d' e' f' g' i' j' : Value) : But S w (((((((((x.setCell ⟨B, 0, none⟩ a').setCell ⟨B, 1, none⟩ b').setCell ⟨B, 2, none⟩ c').setCell ⟨B, 3, none⟩ d').setCell ⟨B, 4, none⟩ e').setCell ⟨B, 5, none⟩ f').setCell ⟨B, 6, none⟩ g').setCell ⟨B, 7, none⟩ i').setCell ⟨B, 8, none⟩ j') :=
  ((((((((h.setCell hB _).setCell hB _).setCell hB _).setCell hB _).setCell hB _).setCell hB _).setCell hB _).setCell hB _).setCell hB _
end Go.Proofs.YtkinnfejgpnddaaDoor

/- The reference of the parses: spans without those of the groups within a tree. -/
namespace Go.Proofs.YtkinnfejgpnddaaDoor
open Go.RowKit
attribute [local go_sem] gives givesUpon

theorem Re.oks_get9 {N : Nat} : ∀ {xs : List Re} (_ : Re.oks N xs) (k : Nat) (h : k < xs.length), xs[k].ok N
  | x :: xs, h, 0, _ => by rw [Re.oks] at h; exact h.1
  | x :: xs, h, k + 1, hk => by rw [Re.oks] at h; exact Re.oks_get9 h.2 k (by simpa using hk)
theorem withinAll_app9 : ∀ a b : List Re, withinAll (a ++ b) = withinAll a ++ withinAll b
  | [], b => by simp [withinAll]
  | x :: a, b => by simp [withinAll, withinAll_app9 a b]
theorem withinAll_step (xs : List Re) (k : Nat) (h : k < xs.length) : withinAll (xs.take (k + 1)) = withinAll (xs.take k) ++ withinOf xs[k] := by
  rw [List.take_add_one, List.getElem?_eq_getElem h, withinAll_app9]
  simp [withinAll]
theorem unset_len (gs : List Nat) : ∀ sp : Spans, (unset sp gs).length = sp.length := by
  induction gs with
  | nil => intro sp; rfl
  | cons g gs ih => intro sp; show (unset (sp.set (g - 1) (-1, -1)) gs).length = _; rw [ih]; simp

end Go.Proofs.YtkinnfejgpnddaaDoor

/- The program of layer 9: spans without those of a tree's groups; anchors. -/
namespace Go.Proofs.YtkinnfejgpnddaaDoor
open Go.RowKit
attribute [local go_sem] gives givesUpon

/-- What cleared leaves. -/
def ClrPost (w : World) (N : Nat) (sp : Spans) (e : Ending) (w' : World) : Prop := ∃ a c, e = .returned (.slice a N c) ∧ Below w.heap.size w w' ∧ SpQ w' (.slice a N c) sp
set_option maxRecDepth 100000 in
set_option maxHeartbeats 8000000 in
theorem pcleared_any (wb : World) (N : Nat) (hN : N ≤ 9) (t : Re) : ∀ (w : World) (cs : List Value) (sa : Option Addr) (sc : Nat) (sp : Spans), t.In wb cs → t.ok N → Below wb.heap.size wb w → sp.length = N → SpQ w (.slice sa N sc) sp → Tabs9 w →
    Calls Tryd.prog 77 #[.agg cs.toArray, .slice sa N sc] w (ClrPost w N (unset sp (withinOf t))) := by
  induction t using Re.ind with
  | h p xs ih =>
    intro w cs sa sc sp hIn hok hbw hspl hsp ht
    rw [Re.In] at hIn
    obtain ⟨ad, cap, rfl, hwf, hlc, hcm, hnil, hall⟩ := hIn
    rw [Re.ok] at hok
    obtain ⟨-, -, -, hgr, hoks⟩ := hok
    have hml : xs.length ≤ 9223372036854775807 := by unfold maxLen at hcm; omega
    have HIH := hid ih
    have HAL := hid hall
    have HBW := hid hbw
    have HOK := hid hoks
    simp only [Pay.cells]
    have hb1 : Below w.heap.size w (w.alloc (.cells #[.int .i64 p.op, .int .u64 p.set.a, .int .u64 p.set.b, .int .u64 p.set.c, .int .u64 p.set.d, .int .i64 p.lo, .int .i64 p.hi, .int .i64 p.gr, .slice ad xs.length cap] 28)) := (Below.refl w.heap.size w).alloc (Nat.le_refl _) (.cells #[.int .i64 p.op, .int .u64 p.set.a, .int .u64 p.set.b, .int .u64 p.set.c, .int .u64 p.set.d, .int .i64 p.lo, .int .i64 p.hi, .int .i64 p.gr, .slice ad xs.length cap] 28)
    have HRW := hid (⟨Row.new (w := w) (cs := [.int .i64 p.op, .int .u64 p.set.a, .int .u64 p.set.b, .int .u64 p.set.c, .int .u64 p.set.d, .int .i64 p.lo, .int .i64 p.hi, .int .i64 p.gr, .slice ad xs.length cap]) (T := 28) rfl, hb1, hsp.below hb1, ht.on hb1⟩ : Row (w.alloc (.cells #[.int .i64 p.op, .int .u64 p.set.a, .int .u64 p.set.b, .int .u64 p.set.c, .int .u64 p.set.d, .int .i64 p.lo, .int .i64 p.hi, .int .i64 p.gr, .slice ad xs.length cap] 28)) w.heap.size [.int .i64 p.op, .int .u64 p.set.a, .int .u64 p.set.b, .int .u64 p.set.c, .int .u64 p.set.d, .int .i64 p.lo, .int .i64 p.hi, .int .i64 p.gr, .slice ad xs.length cap] 28 ∧ _ ∧ _ ∧ Tabs9 (w.alloc (.cells #[.int .i64 p.op, .int .u64 p.set.a, .int .u64 p.set.b, .int .u64 p.set.c, .int .u64 p.set.d, .int .i64 p.lo, .int .i64 p.hi, .int .i64 p.gr, .slice ad xs.length cap] 28)))
    have q0 := HRW.out.1.c9
    have q2 := HRW.out.2.2.2.none0
    have q3 := HRW.out.2.2.2.none1
    have HT := hid ht
    obtain ⟨gs, hgs⟩ : ∃ gs, gs = if p.op = 6 then [p.gr.toNat] else [] := ⟨_, rfl⟩
    have HGS : Hid (∀ ys, unset (unset sp gs) (withinAll ys) = unset sp (withinOf (.mk p ys))) := fun ys => by rw [withinOf, ← hgs, unset_app]
    have HSPL := hid hspl
    go_enter Tryd.func77, Tryd.ntmps77
    apply wp_seq_k
    intro K0 hK0
    have HK0 := hid hK0
    clear hK0
    clear ih hall hwf hbw hoks hcm hlc hnil hb1 hsp ht
    go_wp2_with fail
    refine HK0.out _ _ ?_
    clear HK0
    apply wp_seq_k
    intro K1 hK1
    go_cut [1] from 7 (fun v1 (y : World) => ∃ a c, v1 = .slice a N c ∧ SpQ y (.slice a N c) (unset sp gs) ∧ Row y w.heap.size [.int .i64 p.op, .int .u64 p.set.a, .int .u64 p.set.b, .int .u64 p.set.c, .int .u64 p.set.d, .int .i64 p.lo, .int .i64 p.hi, .int .i64 p.gr, .slice ad xs.length cap] 28 ∧ Below w.heap.size w y)
    case first =>
      clear hK1
      by_cases h6 : p.op = 6
      · have d6 : (p.op == 6) = true := by simp [h6]
        have hg2 := hgr (.inl h6)
        have hgs2 : gs = [p.gr.toNat] := by rw [hgs, if_pos h6]
        have hc := pwith_any (w.alloc (.cells #[.int .i64 p.op, .int .u64 p.set.a, .int .u64 p.set.b, .int .u64 p.set.c, .int .u64 p.set.d, .int .i64 p.lo, .int .i64 p.hi, .int .i64 p.gr, .slice ad xs.length cap] 28)) sa sc sp p.gr.toNat (-1) (-1) (by rw [HSPL.out]; exact HRW.out.2.2.1) (by rw [HSPL.out]; exact hN) (by rw [HSPL.out]; omega)
        rw [show ((p.gr.toNat : Nat) : Int) = p.gr by omega, HSPL.out] at hc
        have HC := hid hc
        have HG2 := hid hgs2
        clear h6 hg2 hgs2 hc hgs hgr hspl
        go_wp2_with fail
        refine HC.out.mono ?_
        rintro e z ⟨a, c, rfl, hb, hs⟩
        have HZ := hid (⟨hs, HRW.out.1.below hb HRW.out.1.lt, HRW.out.2.1.trans (hb.mono HRW.out.2.1.size)⟩ : _ ∧ _ ∧ _)
        clear hb hs HC
        go_wp2_with fail
        go_meet
        refine ⟨a, c, rfl, ?_, HZ.out.2.1, HZ.out.2.2⟩
        rw [HG2.out]
        exact HZ.out.1
      · have d6 : (p.op == 6) = false := by simp [h6]
        have hgs2 : gs = [] := by rw [hgs, if_neg h6]
        have HG2 := hid hgs2
        clear h6 hgs2 hgs hgr hspl
        go_wp2_with fail
        go_meet
        refine ⟨sa, sc, rfl, ?_, HRW.out.1, HRW.out.2.1⟩
        rw [HG2.out]
        exact HRW.out.2.2.1
    obtain ⟨a1, c1, rfl, hs1, hr1, hb1⟩ := hcut
    have HS := hid (⟨hs1, hr1, hb1⟩ : _ ∧ _ ∧ _)
    clear hs1 hr1 hb1 hgs hgr hspl q0 q2 q3 HRW
    generalize wc = z at HS ⊢
    refine hK1 _ _ ?_
    clear hK1
    have q0 := HS.out.2.1.c9
    go_wp2_with fail
    go_loopw [1, 18] (fun v1 v18 wr => ∃ (k : Nat) (a : Option Addr) (c : Nat), v1 = .slice a N c ∧ v18 = .int .i64 k ∧ k ≤ xs.length ∧ Hid (SpQ wr (.slice a N c) (unset (unset sp gs) (withinAll (xs.take k))) ∧ Below w.heap.size w wr)) (fun _ v18 _ => xs.length - (intOf v18).toNat)
    case atStart => exact ⟨0, a1, c1, rfl, rfl, Nat.zero_le _, by simpa [withinAll, unset] using HS.out.1, HS.out.2.2⟩
    case round =>
      obtain ⟨k, a, c, rfl, rfl, hk, HX⟩ := hrel
      clear HS q0
      by_cases hlt : k < xs.length
      · have HBL : Hid (Below wb.heap.size wb wr) := HBW.out.trans (HX.out.2.mono HBW.out.size)
        obtain ⟨b, o, p', ad1, n1, cap1, e3, HC, HI0, hbb⟩ := HAL.out.kid HBL.out k hlt
        subst e3
        have hltI : (k : Int) < xs.length := by omega
        have hwk : IntKind.i64.wrap ((k : Int) + 1) = ((k + 1 : Nat) : Int) := by rw [IntKind.wrap_i64]; omega
        go_upto_region 6 with (with_reducible (refine wpList_load_agg rfl 28 _ rfl b (o + (k * 9)) rfl _ _ HC.out Tryd.underlying28 rfl (size_re9 _ _ _ _ _ _ _ _ _) ?_))
        have hal : Below wr.heap.size wr (wr.alloc (.cells #[.int .i64 p'.op, .int .u64 p'.set.a, .int .u64 p'.set.b, .int .u64 p'.set.c, .int .u64 p'.set.d, .int .i64 p'.lo, .int .i64 p'.hi, .int .i64 p'.gr, .slice ad1 n1 cap1] 28)) := (Below.refl _ _).alloc (Nat.le_refl _) _
        have hbw2 := HX.out.2.trans (hal.mono HX.out.2.size)
        have hc := HIH.out xs[k] (List.getElem_mem _) (wr.alloc (.cells #[.int .i64 p'.op, .int .u64 p'.set.a, .int .u64 p'.set.b, .int .u64 p'.set.c, .int .u64 p'.set.d, .int .i64 p'.lo, .int .i64 p'.hi, .int .i64 p'.gr, .slice ad1 n1 cap1] 28)) _ a c _ HI0.out (Re.oks_get9 HOK.out k hlt) (HBW.out.trans (hbw2.mono HBW.out.size)) (by rw [unset_len, unset_len]; exact HSPL.out) (HX.out.1.below hal) (HT.out.on hbw2)
        have HCC := hid hc
        have HB2 := hid hbw2
        clear hc hal hbw2
        go_wp2_with fail
        refine HCC.out.mono ?_
        rintro e w2 ⟨a2, c2, rfl, hb2, hs2⟩
        have HN2 : Hid (SpQ w2 (.slice a2 N c2) (unset (unset sp gs) (withinAll (xs.take (k + 1)))) ∧ Below w.heap.size w w2) := by
          refine ⟨?_, HB2.out.trans (hb2.mono HB2.out.size)⟩
          rw [withinAll_step xs k hlt, unset_app]
          exact hs2
        clear hb2 hs2 HCC
        go_wp2_with fail
        refine ⟨⟨k + 1, a2, c2, rfl, by go_num, by omega, HN2.out⟩, ?_⟩
        simp [intOf] <;> omega
      · obtain rfl : k = xs.length := by omega
        have hltI : ¬ ((xs.length : Nat) : Int) < (xs.length : Int) := by omega
        go_wp2_with fail
        go_ret
        have h9 := HX.out.1
        rw [List.take_length, HGS.out] at h9
        exact ⟨a, c, rfl, HX.out.2, h9⟩
end Go.Proofs.YtkinnfejgpnddaaDoor

/- The reference of the parses: spans without groups, anchors, back references. -/
namespace Go.Proofs.YtkinnfejgpnddaaDoor
open Go.RowKit
attribute [local go_sem] gives givesUpon

theorem ext_list9 (s : ByteArray) (i k : Nat) : (s.extract i k).toList = (s.data.toList.drop i).take (k - i) := by
  rw [ByteArray.toList_eq, ByteArray.data_extract, Array.toList_extract]

theorem OwnSp.keep {w w' : World} {base : Nat} {v : Value} {l : Spans} (h : OwnSp w base v l) (hk : ∀ g, v.ownBlock = some g → w'.heap[g]? = w.heap[g]?) : OwnSp w' base v l := by
  obtain ⟨h0, h1, h2⟩ := h
  refine ⟨h0, h1, ?_⟩
  rcases h2 with h2 | ⟨g, cap, cur, hv, hg, hcur, hr⟩
  · exact .inl h2
  · exact .inr ⟨g, cap, cur, hv, hg, (hk g (by rw [hv]; rfl)).trans hcur, hr⟩
end Go.Proofs.YtkinnfejgpnddaaDoor

/- The reference of the parses: anchors and back references. -/
namespace Go.Proofs.YtkinnfejgpnddaaDoor
open Go.RowKit
attribute [local go_sem] gives givesUpon

/-- Does an anchor hold at an offset? -/
def holdsOf (s : List UInt8) (lines : Bool) (op : Int) (i : Nat) : Bool :=
  if op = 7 then decide (i = 0) || lines && decide (byteAt s (i - 1) = 10) else decide (i = s.length) || lines && decide (byteAt s i = 10)
/-- Does the string continue with what a span has? -/
def againOf (s : List UInt8) (g : Int × Int) (i : Nat) : Bool :=
  decide (0 ≤ g.1) && decide (i + (g.2 - g.1).toNat ≤ s.length) && decide ((s.drop i).take (g.2 - g.1).toNat = (s.drop g.1.toNat).take (g.2 - g.1).toNat)
theorem Row.two9 {w : World} {B : Nat} {a b : Value} {T : TypeId} (h : Row w B [a, b] T) : w.cell? ⟨B, 0, none⟩ = some a ∧ w.cell? ⟨B, 1, none⟩ = some b := ⟨h.cell 0, h.cell 1⟩
end Go.Proofs.YtkinnfejgpnddaaDoor
