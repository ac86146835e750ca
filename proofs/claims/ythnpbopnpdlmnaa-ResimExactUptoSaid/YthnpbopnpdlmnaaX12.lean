/- Lists of parses in memory. -/
import Derived.Test.YthnpbopnpdlmnaaX11
import Derived.Laws.AppendOwnNone
namespace Go.Proofs.Ythnpbopnpdlmnaa
open Go.RowKit
attribute [local go_sem] gives givesUpon

def SpQ (w : World) (v : Value) (sp : Spans) : Prop := ∃ a c, v = .slice a sp.length c ∧ (sp = [] ∨ ∃ b more, a = some ⟨b, 0, none⟩ ∧ Row w b (spc sp ++ more) 47)
theorem SpQ.of {w w' : World} {v : Value} {sp : Spans} (h : SpQ w v sp) (hb : ∀ b cs, Row w b cs 47 → Row w' b cs 47) : SpQ w' v sp := by
  obtain ⟨a, c, e, h1 | ⟨b, more, h1, h2⟩⟩ := h
  · exact ⟨a, c, e, .inl h1⟩
  · exact ⟨a, c, e, .inr ⟨b, more, h1, hb _ _ h2⟩⟩
theorem SpQ.below {w w' : World} {v : Value} {sp : Spans} (h : SpQ w v sp) (hf : Below w.heap.size w w') : SpQ w' v sp := h.of fun _ _ hr => hr.below hf hr.lt
theorem SpQ.but {S : List Nat} {w w' : World} {v : Value} {sp : Spans} (h : SpQ w v sp) (hf : But S w w') (hn : ∀ b cs, Row w b cs 47 → b ∉ S) : SpQ w' v sp := h.of fun b cs hr => hr.but hf (hn b cs hr)
theorem SpQ.form {w : World} {v : Value} {sp : Spans} (h : SpQ w v sp) : ∃ a c, v = .slice a sp.length c := by obtain ⟨a, c, e, _⟩ := h; exact ⟨a, c, e⟩
theorem SpB.q {p : Nat → Prop} {w : World} {v : Value} {sp : Spans} (h : SpB p w v sp) : SpQ w v sp := by
  rcases h with ⟨rfl, rfl⟩ | ⟨h0, b, c, m, rfl, h2, h3⟩
  · exact ⟨_, _, rfl, .inl rfl⟩
  · exact ⟨_, _, rfl, .inr ⟨b, m, rfl, h3⟩⟩
theorem OwnSp.q {w : World} {base : Nat} {a : Option Addr} {n c : Nat} {l : Spans} (h : OwnSp w base (.slice a n c) l) : SpQ w (.slice a n c) l := h.spb.q
def pcell (x : Parse × Value) : List Value := [.int .i64 x.1.1, x.2]
def PL (w : World) (L : List (Parse × Value)) : Prop := ∀ x, x ∈ L → SpQ w x.2 x.1.2
theorem pcells_length (L : List (Parse × Value)) : (L.flatMap pcell).length = L.length * 2 := by
  induction L with
  | nil => rfl
  | cons x L ih => rw [List.flatMap_cons, List.length_append, ih]; simp [pcell]; omega
theorem pcells_get : ∀ (L : List (Parse × Value)) (k : Nat) (x : Parse × Value), L[k]? = some x → (L.flatMap pcell)[k * 2]? = some (.int .i64 x.1.1) ∧ (L.flatMap pcell)[k * 2 + 1]? = some x.2
  | y :: L, 0, x, h => by simp at h; subst h; exact ⟨rfl, rfl⟩
  | y :: L, k + 1, x, h => by
    have := pcells_get L k x (by simpa using h)
    simpa [pcell, show (k + 1) * 2 = k * 2 + 2 by omega] using this
theorem PL.of {w w' : World} {L : List (Parse × Value)} (h : PL w L) (hb : ∀ b cs, Row w b cs 47 → Row w' b cs 47) : PL w' L := fun x hx => (h x hx).of hb
theorem PL.one {w : World} {L : List (Parse × Value)} (h : PL w L) : ∀ u, u ∈ L.flatMap pcell → u.oneCell' = true := by
  intro u hu
  obtain ⟨x, hx, hu⟩ := List.mem_flatMap.1 hu
  obtain ⟨a, c, e⟩ := (h x hx).form
  simp only [pcell, List.mem_cons, List.not_mem_nil, or_false] at hu
  rcases hu with rfl | rfl
  · rfl
  · rw [e]; rfl
def PsQ (p : Nat → Prop) (w : World) (v : Value) (l : List Parse) : Prop :=
  (l = [] ∧ v = .slice none 0 0) ∨ (l ≠ [] ∧ ∃ (b c : Nat) (more : List Value) (L : List (Parse × Value)), v = .slice (some ⟨b, 0, none⟩) l.length c ∧ p b ∧ L.map Prod.fst = l ∧ PL w L ∧ Row w b (L.flatMap pcell ++ more) 40)
theorem PsQ.form {p : Nat → Prop} {w : World} {v : Value} {l : List Parse} (h : PsQ p w v l) : ∃ a c, v = .slice a l.length c := by
  rcases h with ⟨rfl, rfl⟩ | ⟨_, b, c, m, L, rfl, _⟩ <;> exact ⟨_, _, rfl⟩
theorem PsQ.of {p q : Nat → Prop} {w w' : World} {v : Value} {l : List Parse} (h : PsQ p w v l) (hb : ∀ b cs, Row w b cs 47 → Row w' b cs 47) (hp : ∀ b cs, p b → Row w b cs 40 → Row w' b cs 40 ∧ q b) : PsQ q w' v l := by
  rcases h with h | ⟨h0, b, c, m, L, h1, h2, h3, h4, h5⟩
  · exact .inl h
  · have h6 := hp b _ h2 h5
    exact .inr ⟨h0, b, c, m, L, h1, h6.2, h3, h4.of hb, h6.1⟩
theorem PsQ.below {p : Nat → Prop} {w w' : World} {v : Value} {l : List Parse} (h : PsQ p w v l) (hf : Below w.heap.size w w') : PsQ p w' v l :=
  h.of (fun _ _ hr => hr.below hf hr.lt) fun _ _ hp hr => ⟨hr.below hf hr.lt, hp⟩
theorem PsQ.mono {p q : Nat → Prop} {w : World} {v : Value} {l : List Parse} (h : PsQ p w v l) (hp : ∀ b, b < w.heap.size → p b → q b) : PsQ q w v l :=
  h.of (fun _ _ hr => hr) fun b _ h1 hr => ⟨hr, hp b hr.lt h1⟩
theorem PsQ.get {p : Nat → Prop} {w : World} {v : Value} {l : List Parse} (h : PsQ p w v l) {k : Nat} (hk : k < l.length) : ∃ (b c : Nat) (q1 : Nat) (q2 : Spans) (sa : Option Addr) (sc : Nat), l[k]? = some (q1, q2) ∧ v = .slice (some ⟨b, 0, none⟩) l.length c ∧ b < w.heap.size ∧ p b ∧ (∃ cs, Row w b cs 40) ∧ w.cell? ⟨b, k * 2, none⟩ = some (.int .i64 q1) ∧ w.cell? ⟨b, k * 2 + 1, none⟩ = some (.slice sa q2.length sc) ∧ SpQ w (.slice sa q2.length sc) q2 := by
  rcases h with ⟨rfl, _⟩ | ⟨h0, b, c, m, L, h1, h2, h3, h4, h5⟩
  · simp at hk
  · subst h3
    have hkL : k < L.length := by simpa using hk
    have hg := pcells_get L k L[k] (by simp [hkL])
    have hl := pcells_length L
    have hsq := h4 L[k] (by simp)
    obtain ⟨sa, sc, e⟩ := hsq.form
    refine ⟨b, c, L[k].1.1, L[k].1.2, sa, sc, by simp [hkL], by simpa using h1, h5.lt, h2, ⟨_, h5⟩, ?_, ?_, ?_⟩
    · rw [h5.cell, List.getElem?_append_left (by omega), hg.1]
    · rw [h5.cell, List.getElem?_append_left (by omega), hg.2, e]
    · rw [← e]; exact hsq
theorem grownBy_below {w x y : World} {row : Option Nat} (h : Below w.heap.size w x) (hg : x.grownBy y row) : w.grownBy y row :=
  ⟨hg.os.trans h.os, hg.tape.trans h.tape, hg.output.trans h.output, Nat.le_trans h.size hg.size, fun k hk hn => (hg.block k (Nat.lt_of_lt_of_le hk h.size) hn).trans (h.block k hk)⟩
def OwnP (w : World) (base : Nat) (v : Value) (l : List Parse) : Prop := (l = [] → v = .slice none 0 0) ∧ ∃ L : List (Parse × Value), L.map Prod.fst = l ∧ PL w L ∧ w.ownsRow base 40 2 v l.length (L.flatMap pcell)
theorem OwnP.nil (w : World) (base : Nat) : OwnP w base (.slice none 0 0) [] := ⟨fun _ => rfl, [], rfl, (fun _ h => by cases h), World.ownsRow_nil _ _ _ _⟩
theorem OwnP.form {w : World} {base : Nat} {v : Value} {l : List Parse} (h : OwnP w base v l) : ∃ a c, v = .slice a l.length c := by obtain ⟨_, L, _, _, h3⟩ := h; exact ownsRow_shape h3
theorem OwnP.lt {w : World} {base : Nat} {v : Value} {l : List Parse} (h : OwnP w base v l) : ∀ g, v.ownBlock = some g → base ≤ g ∧ g < w.heap.size := by obtain ⟨_, L, _, _, h3⟩ := h; exact World.ownsRow.lt h3
theorem OwnP.keep {w w' : World} {base : Nat} {v : Value} {l : List Parse} (h : OwnP w base v l) (hb : ∀ b cs, Row w b cs 47 → Row w' b cs 47) (ho : ∀ g, v.ownBlock = some g → w'.heap[g]? = w.heap[g]?) : OwnP w' base v l := by
  obtain ⟨h0, L, h1, h2, h3, h4⟩ := h
  refine ⟨h0, L, h1, h2.of hb, h3, ?_⟩
  rcases h4 with h4 | ⟨g, cap, cur, hv, hg, hcur, hr⟩
  · exact .inl h4
  · exact .inr ⟨g, cap, cur, hv, hg, (ho g (by rw [hv]; rfl)).trans hcur, hr⟩
theorem OwnP.below {w w' : World} {base : Nat} {v : Value} {l : List Parse} (h : OwnP w base v l) (hf : Below w.heap.size w w') : OwnP w' base v l :=
  h.keep (fun _ _ hr => hr.below hf hr.lt) fun g hg => hf.block g (h.lt g hg).2
theorem OwnP.row {w : World} {base : Nat} {v : Value} {l : List Parse} (h : OwnP w base v l) {g : Nat} (hg : v.ownBlock = some g) : ∃ cs, Row w g cs 40 := by
  obtain ⟨h0, L, h1, h2, h3, h4⟩ := h
  rcases h4 with ⟨h4, -⟩ | ⟨g', cap, cur, hv, -, hcur, -⟩
  · rw [h4] at hg; cases hg
  · rw [hv] at hg
    have : g' = g := by simpa [Value.ownBlock] using hg
    subst this
    exact ⟨cur.toList, hcur⟩
theorem OwnP.psq {w : World} {base : Nat} {v : Value} {l : List Parse} (h : OwnP w base v l) : PsQ (fun b => base ≤ b ∧ v.ownBlock = some b) w v l := by
  obtain ⟨h0, L, h1, h2, h3, h4⟩ := h
  by_cases hl : l = []
  · exact .inl ⟨hl, h0 hl⟩
  · rcases h4 with ⟨-, h4⟩ | ⟨g, cap, cur, hv, hg, hcur, hn, hm, hs, hx⟩
    · exact absurd (List.eq_nil_of_length_eq_zero h4) hl
    · refine .inr ⟨hl, g, cap, cur.toList.drop (l.length * 2), L, hv, ⟨hg, by rw [hv]; rfl⟩, h1, h2, ?_⟩
      have e : L.flatMap pcell ++ cur.toList.drop (l.length * 2) = cur.toList := by rw [← hx]; exact List.take_append_drop _ _
      unfold Row
      rw [e]
      exact hcur
theorem info_parse : (Try.prog.info? 40).map (fun i => (i.zero, i.size, i.bytes)) = some (some (.agg #[.int .i64 0, .slice none 0 0]), 2, 32) := by kernel_rfl
theorem OwnP.app {w w' : World} {base : Nat} {v : Value} {l m : List Parse} {L M : List (Parse × Value)} {a' : Option Addr} {n' c' : Nat} (hm : m ≠ []) (hL : L.map Prod.fst = l) (hM : M.map Prod.fst = m) (h2 : PL w L) (h3 : PL w M) (h4 : w.ownsRow base 40 2 v l.length (L.flatMap pcell))
    (ho : w'.ownsRow base 40 2 (.slice a' n' c') n' (L.flatMap pcell ++ M.flatMap pcell)) (hg : w.grownBy w' v.ownBlock) (hn : n' = l.length + m.length) : OwnP w' base (.slice a' n' c') (l ++ m) := by
  have hsp : ∀ b cs, Row w b cs 47 → Row w' b cs 47 := fun b cs hr => hr.grownOwn h4 (by decide) hg
  refine ⟨fun e => absurd (List.append_eq_nil_iff.1 e).2 hm, L ++ M, by rw [List.map_append, hL, hM], fun x hx => ?_, ?_⟩
  · rcases List.mem_append.1 hx with hx | hx
    · exact (h2 x hx).of hsp
    · exact (h3 x hx).of hsp
  · rw [List.length_append, ← hn, List.flatMap_append]
    exact ho
theorem wpList_append_ps {ops : Array Oper} {rest : List Oper} {o : Oper} {a : Act} {w : World} {Q : Exit → Act → World → Prop} (hgd : o.guard = none) (s x : Operand)
    (ho : o.op = .call { callee := .builtin .append, args := #[s, x], argTypes := #[35, 35] }) (base : Nat) (v : Value) (l m : List Parse) (p : Nat → Prop) (u : Value) (hs : a.eval s = v) (hown : OwnP w base v l) (hx : a.eval x = u) (hsrc : PsQ p w u m)
    (hsz : l.length + m.length ≤ 1000000) (hbase : base ≤ w.heap.size)
    (h : ∀ a' n' c' w', n' = (l ++ m).length → OwnP w' base (.slice a' n' c') (l ++ m) → w.grownBy w' v.ownBlock → (∀ g, (Value.slice a' n' c').ownBlock = some g → v.ownBlock = some g ∨ w.heap.size ≤ g) → wpList Try.prog ops Q rest (a.put o.dst (.slice a' n' c')) w') : wpList Try.prog ops Q (o :: rest) a w := by
  obtain ⟨i0, hi, hz0, hz1, hz2⟩ := info_parts info_parse
  obtain ⟨h0, L, h1, h2, h3⟩ := hown
  rcases hsrc with ⟨rfl, rfl⟩ | ⟨hm, b, c, more, M, rfl, hp, k1, k2, k3⟩
  · refine wpList_append_own_none hgd s x 35 ho base 40 i0 2 Try.underlying35 hi v l.length (L.flatMap pcell) hs h3 hx ?_
    obtain ⟨a', c', e⟩ := ownsRow_shape h3
    have := h a' l.length c' w (by simp) (by rw [List.append_nil, ← e]; exact ⟨h0, L, h1, h2, h3⟩) ⟨rfl, rfl, rfl, Nat.le_refl _, fun _ _ _ => rfl⟩ (by rw [← e]; exact fun g hg => .inl hg)
    rw [← e] at this
    exact this
  · have hml : m.length = M.length := by rw [← k1]; simp
    refine wpList_append_row hgd s x 35 ho base 40 i0 (.agg #[.int .i64 0, .slice none 0 0]) 2 32 Try.underlying35 hi hz0 hz1 hz2 rfl (by decide) v l.length (L.flatMap pcell) hs h3 ⟨b, 0, none⟩ m.length c (M.flatMap pcell) hx (by rw [pcells_length, hml]) ?_ k2.one (by unfold maxLen; omega) (by omega) hbase (List.length_pos_iff.2 hm) fun a' c' w' g1 g2 g3 => ?_
    · intro j u hj
      rw [Addr.add_lit, Nat.zero_add, k3.cell j]
      exact List.getElem?_append_left (List.getElem?_eq_some_iff.1 hj).1 ▸ hj
    · exact h a' _ c' w' (List.length_append).symm (OwnP.app hm h1 k1 h2 k2 h3 g1 g2 rfl) g2 g3
theorem PsQ.lit {w : World} {b : Nat} {q : Parse} {sv : Value} (hr : Row w b [.int .i64 q.1, sv] 40) (hs : SpQ w sv q.2) : PsQ (· = b) w (.slice (some ⟨b, 0, none⟩) 1 1) [q] :=
  .inr ⟨by simp, b, 1, [], [(q, sv)], rfl, rfl, rfl, (fun x hx => by have := List.mem_singleton.1 hx; subst this; exact hs), by simpa [pcell] using hr⟩
end Go.Proofs.Ythnpbopnpdlmnaa

/- The reference of the parses: equal spans, a list with another parse, a sorted list. -/
namespace Go.Proofs.Ythnpbopnpdlmnaa
open Go.RowKit
attribute [local go_sem] gives givesUpon

theorem run_eqIn_span (a b c d : Int) (x : World) : (Op.equalIn 10000 47 (.agg #[.int .i64 a, .int .i64 b]) (.agg #[.int .i64 c, .int .i64 d])).run Try.prog x = .ok (decide (a = c ∧ b = d)) x := by
  have hf : (Try.prog.fieldsOf 47).toList = [{ name := "From", type := 3, offset := 0, embedded := false, tag := "", pkgPath := "", byteOffset := 0 }, { name := "To", type := 3, offset := 1, embedded := false, tag := "", pkgPath := "", byteOffset := 8 }] := by kernel_rfl
  have key : decide (a = c ∧ b = d) = ((a == c) && (b == d)) := by
    rw [Bool.eq_iff_iff]
    simp only [decide_eq_true_eq, Bool.and_eq_true, beq_iff_eq]
  rw [key, run_equalIn_agg _ 9999 47 _ _ (by kernel_rfl) (by kernel_rfl), hf]
  simp [Op.eqFields, go_sem]
  by_cases h1 : a = c <;> by_cases h2 : b = d <;> simp [h1, h2]
set_option maxRecDepth 100000 in
set_option maxHeartbeats 8000000 in
theorem SameSpansQ_any (w : World) (v v' : Value) (l l' : Spans) (h : SpQ w v l) (h' : SpQ w v' l') (hl : l.length ≤ 1000) (_hl' : l'.length ≤ 1000) :
    Calls Try.prog 35 #[v, v'] w fun e w' => e = .returned (.bool (decide (l = l'))) ∧ Below w.heap.size w w' := by
  obtain ⟨a, c, rfl⟩ := h.form
  obtain ⟨a', c', rfl⟩ := h'.form
  by_cases hlen : l.length = l'.length
  · have HL := hid hlen
    obtain ⟨n, hn⟩ : ∃ n, n = l.length := ⟨_, rfl⟩
    have hn' : n = l'.length := hn.trans hlen
    have hn9 : n ≤ 1000 := by omega
    have H1 := hid h
    have H2 := hid h'
    have HN := hid hn
    have HN' := hid hn'
    rw [← hn, ← hn']
    clear hlen h h' hn hn' hl
    go_enter Try.func35, Try.ntmps35
    go_wp2_with fail
    go_loopw [5] (fun v wr => ∃ k : Nat, k ≤ n ∧ v = .int .i64 k ∧ Hid (∀ j, j < k → l[j]? = l'[j]?) ∧ Hid (Below w.heap.size w wr)) (fun v _ => n - (intOf v).toNat)
    case atStart => exact ⟨0, Nat.zero_le _, rfl, fun j hj => by omega, Below.refl _ _⟩
    case round =>
      obtain ⟨k, hk, rfl, HE, HB⟩ := hrel
      by_cases hlt : k < n
      · have hltI : (k : Int) < (n : Int) := by omega
        have hk1 : k < l.length := by have := HN.out; omega
        have hk2 : k < l'.length := by have := HN'.out; omega
        obtain ⟨a1, cc, e, hh⟩ := H1.out
        rcases hh with h0 | ⟨b, more, e1, hr⟩
        · rw [h0] at hk1; simp at hk1
        obtain ⟨a2, cc', e', hh⟩ := H2.out
        rcases hh with h0 | ⟨b', more', e2, hr'⟩
        · rw [h0] at hk2; simp at hk2
        subst e1; subst e2
        injection e with e1 e3 e4
        injection e' with e2 e5 e6
        clear e3 e4 e5 e6
        subst e1; subst e2
        have hx := spc_get l k l[k] (by simp [hk1])
        have hx' := spc_get l' k l'[k] (by simp [hk2])
        have r1 := hr.below HB.out hr.lt
        have r2 := hr'.below HB.out hr'.lt
        have s1 := spc_length l
        have s2 := spc_length l'
        have p0 := r1.cell (k * 2)
        have p1 := r1.cell (k * 2 + 1)
        have p2 := r2.cell (k * 2)
        have p3 := r2.cell (k * 2 + 1)
        rw [List.getElem?_append_left (by omega), show k * 2 = 2 * k by omega, hx.1, show 2 * k = k * 2 by omega] at p0
        rw [List.getElem?_append_left (by omega), show k * 2 + 1 = 2 * k + 1 by omega, hx.2, show 2 * k + 1 = k * 2 + 1 by omega] at p1
        rw [List.getElem?_append_left (by omega), show k * 2 = 2 * k by omega, hx'.1, show 2 * k = k * 2 by omega] at p2
        rw [List.getElem?_append_left (by omega), show k * 2 + 1 = 2 * k + 1 by omega, hx'.2, show 2 * k + 1 = k * 2 + 1 by omega] at p3
        have HK1 : Hid (l[k]? = some l[k]) := by show _ = _; simp [hk1]
        have HK2 : Hid (l'[k]? = some l'[k]) := by show _ = _; simp [hk2]
        clear hr hr' s1 s2 hx hx'
        generalize l[k] = x at *
        generalize l'[k] = y at *
        obtain ⟨x1, x2⟩ := x
        obtain ⟨y1, y2⟩ := y
        dsimp only at p0 p1 p2 p3
        have HC0 := hid (⟨p0, p1, p2, p3, r1.lt, r2.lt⟩ : _ ∧ _ ∧ _ ∧ _ ∧ _ ∧ _)
        have HC := hid (fun (x : World) (hx : Grow wr.drew x) => (⟨((grow_below hx).cell (p := ⟨b, k * 2, none⟩) HC0.out.2.2.2.2.1).trans HC0.out.1, ((grow_below hx).cell (p := ⟨b, k * 2 + 1, none⟩) HC0.out.2.2.2.2.1).trans HC0.out.2.1, ((grow_below hx).cell (p := ⟨b', k * 2, none⟩) HC0.out.2.2.2.2.2).trans HC0.out.2.2.1, ((grow_below hx).cell (p := ⟨b', k * 2 + 1, none⟩) HC0.out.2.2.2.2.2).trans HC0.out.2.2.2.1⟩ : _ ∧ _ ∧ _ ∧ _))
        have heq := run_eqIn_span x1 x2 y1 y2
        clear r1 r2 p0 p1 p2 p3
        by_cases hxy : x1 = y1 ∧ x2 = y2
        · rw [decide_eq_true hxy] at heq
          have HXY := hid hxy
          clear hxy
          go_wp2_with fail
          refine wp_region_inv 9 (Grow) (by kernel_rfl) (by kernel_rfl) (Grow.refl) (fun _ _ _ => Grow.trans) ?_
          simp only [fill, dstOf, Act.put, List.take_succ_cons, List.take_zero, List.getElem?_toArray, List.getElem?_cons_zero, List.getElem?_cons_succ, Option.bind_some, List.setIfInBounds_toArray, List.set_cons_zero, List.set_cons_succ]
          refine Plan.det 1 rfl (Grow.refl) ?_
          apply Exists.intro
          refine ⟨fun vs x hR hF K hK => ?_, ?_⟩
          · clear hF
            go_simp
            exact hK _ _ (Grow.refl _) rfl
          refine Plan.det 2 rfl (Grow.refl) ?_
          apply Exists.intro
          refine ⟨fun vs x hR hF K hK => ?_, ?_⟩
          · clear hF
            go_simp
            exact hK _ _ (Grow.refl _) rfl
          refine Plan.det 3 rfl (Grow.refl) ?_
          apply Exists.intro
          refine ⟨fun vs x hR hF K hK => ?_, ?_⟩
          · have f0 := hF 1 _ _ rfl rfl; have f1 := hF 0 _ _ rfl rfl; clear hF
            go_simp
            exact hK _ _ (Grow.refl _) rfl
          refine Plan.det 4 rfl (Grow.refl) ?_
          apply Exists.intro
          refine ⟨fun vs x hR hF K hK => ?_, ?_⟩
          · have f2 := hF 0 _ _ rfl rfl; have hc := HC.out x hR; clear hF
            go_simp
            exact hK _ _ (Grow.refl _) rfl
          refine Plan.det 5 rfl (Grow.refl) ?_
          apply Exists.intro
          refine ⟨fun vs x hR hF K hK => ?_, ?_⟩
          · clear hF
            go_simp
            exact hK _ _ (Grow.refl _) rfl
          refine Plan.det 6 rfl (Grow.refl) ?_
          apply Exists.intro
          refine ⟨fun vs x hR hF K hK => ?_, ?_⟩
          · clear hF
            go_simp
            exact hK _ _ (Grow.refl _) rfl
          refine Plan.det 7 rfl (Grow.refl) ?_
          apply Exists.intro
          refine ⟨fun vs x hR hF K hK => ?_, ?_⟩
          · have f4 := hF 1 _ _ rfl rfl; have f5 := hF 0 _ _ rfl rfl; clear hF
            go_simp
            exact hK _ _ (Grow.refl _) rfl
          refine Plan.det 8 rfl (Grow.refl) ?_
          apply Exists.intro
          refine ⟨fun vs x hR hF K hK => ?_, ?_⟩
          · have f6 := hF 0 _ _ rfl rfl; have hc := HC.out x hR; clear hF
            go_simp
            exact hK _ _ (Grow.refl _) rfl
          refine Plan.det 9 rfl (Grow.refl) ?_
          apply Exists.intro
          refine ⟨fun vs x hR hF K hK => ?_, ?_⟩
          · have f3 := hF 4 _ _ rfl rfl; have f7 := hF 0 _ _ rfl rfl; clear hF
            go_simp
            exact hK _ _ (Grow.refl _) rfl
          refine Plan.nil (fun vs x hR hF => ?_)
          have f0 := hF 8 _ _ rfl; have f1 := hF 7 _ _ rfl; have f2 := hF 6 _ _ rfl; have f3 := hF 5 _ _ rfl; have f4 := hF 4 _ _ rfl; have f5 := hF 3 _ _ rfl; have f6 := hF 2 _ _ rfl; have f7 := hF 1 _ _ rfl; have f8 := hF 0 _ _ rfl
          clear hF
          simp only [f0, f1, f2, f3, f4, f5, f6, f7, f8]
          clear f0 f1 f2 f3 f4 f5 f6 f7 f8
          simp only [List.drop_succ_cons, List.drop_zero]
          have HBX := hid (HB.out.trans ((grow_below hR).mono HB.out.size))
          clear HC hR
          go_wp2_with fail
          refine ⟨⟨k + 1, by omega, by go_num, fun j hj => ?_, HBX.out⟩, ?_⟩
          · rcases Nat.lt_or_ge j k with h | h
            · exact HE.out j h
            · have : j = k := by omega
              subst this
              rw [HK1.out, HK2.out, HXY.out.1, HXY.out.2]
          · simp [intOf]; omega
        · rw [decide_eq_false hxy] at heq
          have HXY := hid hxy
          clear hxy
          go_wp2_with fail
          refine wp_region_inv 9 (Grow) (by kernel_rfl) (by kernel_rfl) (Grow.refl) (fun _ _ _ => Grow.trans) ?_
          simp only [fill, dstOf, Act.put, List.take_succ_cons, List.take_zero, List.getElem?_toArray, List.getElem?_cons_zero, List.getElem?_cons_succ, Option.bind_some, List.setIfInBounds_toArray, List.set_cons_zero, List.set_cons_succ]
          refine Plan.det 1 rfl (Grow.refl) ?_
          apply Exists.intro
          refine ⟨fun vs x hR hF K hK => ?_, ?_⟩
          · clear hF
            go_simp
            exact hK _ _ (Grow.refl _) rfl
          refine Plan.det 2 rfl (Grow.refl) ?_
          apply Exists.intro
          refine ⟨fun vs x hR hF K hK => ?_, ?_⟩
          · clear hF
            go_simp
            exact hK _ _ (Grow.refl _) rfl
          refine Plan.det 3 rfl (Grow.refl) ?_
          apply Exists.intro
          refine ⟨fun vs x hR hF K hK => ?_, ?_⟩
          · have f0 := hF 1 _ _ rfl rfl; have f1 := hF 0 _ _ rfl rfl; clear hF
            go_simp
            exact hK _ _ (Grow.refl _) rfl
          refine Plan.det 4 rfl (Grow.refl) ?_
          apply Exists.intro
          refine ⟨fun vs x hR hF K hK => ?_, ?_⟩
          · have f2 := hF 0 _ _ rfl rfl; have hc := HC.out x hR; clear hF
            go_simp
            exact hK _ _ (Grow.refl _) rfl
          refine Plan.det 5 rfl (Grow.refl) ?_
          apply Exists.intro
          refine ⟨fun vs x hR hF K hK => ?_, ?_⟩
          · clear hF
            go_simp
            exact hK _ _ (Grow.refl _) rfl
          refine Plan.det 6 rfl (Grow.refl) ?_
          apply Exists.intro
          refine ⟨fun vs x hR hF K hK => ?_, ?_⟩
          · clear hF
            go_simp
            exact hK _ _ (Grow.refl _) rfl
          refine Plan.det 7 rfl (Grow.refl) ?_
          apply Exists.intro
          refine ⟨fun vs x hR hF K hK => ?_, ?_⟩
          · have f4 := hF 1 _ _ rfl rfl; have f5 := hF 0 _ _ rfl rfl; clear hF
            go_simp
            exact hK _ _ (Grow.refl _) rfl
          refine Plan.det 8 rfl (Grow.refl) ?_
          apply Exists.intro
          refine ⟨fun vs x hR hF K hK => ?_, ?_⟩
          · have f6 := hF 0 _ _ rfl rfl; have hc := HC.out x hR; clear hF
            go_simp
            exact hK _ _ (Grow.refl _) rfl
          refine Plan.det 9 rfl (Grow.refl) ?_
          apply Exists.intro
          refine ⟨fun vs x hR hF K hK => ?_, ?_⟩
          · have f3 := hF 4 _ _ rfl rfl; have f7 := hF 0 _ _ rfl rfl; clear hF
            go_simp
            exact hK _ _ (Grow.refl _) rfl
          refine Plan.nil (fun vs x hR hF => ?_)
          have f0 := hF 8 _ _ rfl; have f1 := hF 7 _ _ rfl; have f2 := hF 6 _ _ rfl; have f3 := hF 5 _ _ rfl; have f4 := hF 4 _ _ rfl; have f5 := hF 3 _ _ rfl; have f6 := hF 2 _ _ rfl; have f7 := hF 1 _ _ rfl; have f8 := hF 0 _ _ rfl
          clear hF
          simp only [f0, f1, f2, f3, f4, f5, f6, f7, f8]
          clear f0 f1 f2 f3 f4 f5 f6 f7 f8
          simp only [List.drop_succ_cons, List.drop_zero]
          have HBX := hid (HB.out.trans ((grow_below hR).mono HB.out.size))
          clear HC hR
          go_wp2_with fail
          go_ret
          refine ⟨ret_bool ?_, HBX.out⟩
          rw [decide_eq_false]
          intro e
          have h1 := HK1.out
          rw [e, HK2.out] at h1
          injection h1 with h1
          injection h1 with h1 h2
          exact HXY.out ⟨h1.symm, h2.symm⟩
      · have hltI : ¬ (k : Int) < (n : Int) := by omega
        go_wp2_with fail
        go_ret
        refine ⟨ret_bool ?_, HB.out⟩
        rw [decide_eq_true]
        apply List.ext_getElem?
        intro j
        rcases Nat.lt_or_ge j n with h | h
        · exact HE.out j (by omega)
        · rw [List.getElem?_eq_none (by have := HN.out; omega), List.getElem?_eq_none (by have := HN'.out; omega)]
  · have d1 : ((l.length : Int) != (l'.length : Int)) = true := by simp; omega
    have HL := hid hlen
    clear hlen
    go_enter Try.func35, Try.ntmps35
    go_wp2_with fail
    go_ret
    exact ⟨ret_bool (by rw [decide_eq_false]; intro e; exact HL.out (by rw [e])), Below.refl _ _⟩

def AddPost (w : World) (base : Nat) (v : Value) (l : List Parse) (e : Ending) (w' : World) : Prop :=
  ∃ a c, e = .returned (.slice a l.length c) ∧ OwnP w' base (.slice a l.length c) l ∧ w.grownBy w' v.ownBlock ∧ (∀ g, (Value.slice a l.length c).ownBlock = some g → v.ownBlock = some g ∨ w.heap.size ≤ g)
set_option maxRecDepth 100000 in
set_option maxHeartbeats 8000000 in
theorem radd_any (w : World) (base : Nat) (v sv : Value) (l : List Parse) (end_ : Nat) (sp : Spans) (hown : OwnP w base v l) (hsp : SpQ w sv sp) (hn : l.length ≤ 100000) (hbase : base ≤ w.heap.size) (hN : ∀ q, q ∈ (end_, sp) :: l → q.2.length ≤ 9 ∧ q.1 ≤ 1000000) :
    Calls Try.prog 49 #[v, .int .i64 end_, sv] w (AddPost w base v (addP l (end_, sp))) := by
  obtain ⟨a, c, rfl⟩ := hown.form
  obtain ⟨sa, sc, rfl⟩ := hsp.form
  have HS := hid hsp
  have HN := hid hN
  obtain ⟨n, hnn⟩ : ∃ n, n = l.length := ⟨_, rfl⟩
  have HNN := hid hnn
  have hn2 : n ≤ 100000 := by omega
  have hown' : OwnP w base (.slice a n c) l := by rw [hnn]; exact hown
  have HO := hid hown'
  rw [← hnn]
  clear hown hown' hsp hN hnn hn
  go_enter Try.func49, Try.ntmps49
  go_wp2_with fail
  go_loopw [7] (fun v wr => ∃ k : Nat, k ≤ n ∧ v = .int .i64 k ∧ Hid (∀ j (hj : j < l.length), j < k → l[j] ≠ (end_, sp)) ∧ Hid (Below w.heap.size w wr)) (fun v _ => n - (intOf v).toNat)
  case atStart => exact ⟨0, Nat.zero_le _, rfl, fun j _ hj => by omega, Below.refl _ _⟩
  case round =>
    obtain ⟨k, hk, rfl, HE, HB⟩ := hrel
    by_cases hlt : k < n
    · have hltI : (k : Int) < (n : Int) := by omega
      have hkl : k < l.length := by have := HNN.out; omega
      obtain ⟨b, c', q1, q2, sa', sc', hq, ev, hbl, -, -, p0, p1, hsq⟩ := (HO.out.psq.below HB.out).get hkl
      injection ev with e1 e2 e3
      subst e1; subst e3
      clear e2
      have HSQ := hid hsq
      have hmem : (q1, q2) ∈ l := List.mem_of_getElem? hq
      have HQ : Hid (q2.length ≤ 9 ∧ q1 ≤ 1000000) := HN.out (q1, q2) (List.mem_cons_of_mem _ hmem)
      have HMEM := hid hmem
      have HNE : Hid (∀ j (hj : j < l.length), j < k + 1 → l[j] = (q1, q2) ∨ l[j] ≠ (end_, sp)) := fun j hj h => by
        rcases Nat.lt_or_ge j k with h1 | h1
        · exact .inr (HE.out j hj h1)
        · left
          have : j = k := by omega
          subst this
          rw [List.getElem?_eq_getElem hj] at hq
          exact Option.some.inj hq
      clear hsq hmem hq
      by_cases hqe : q1 = end_
      · subst hqe
        go_wp2_with fail
        refine (SameSpansQ_any wr _ _ q2 sp HSQ.out (HS.out.below HB.out) (by have := HQ.out; omega) (by have := (HN.out _ (List.mem_cons_self)).1; dsimp only at this; omega)).mono ?_
        rintro e w1 ⟨rfl, hb1⟩
        have HB1 := hid (HB.out.trans (hb1.mono HB.out.size))
        clear hb1 p0 p1
        by_cases hs : q2 = sp
        · subst hs
          rw [decide_eq_true rfl]
          go_wp2_with fail
          go_ret
          have hadd : addP l (q1, q2) = l := by unfold addP; rw [if_pos HMEM.out]
          rw [hadd]
          have h1 := HO.out.below HB1.out
          have h2 : ∀ g, (Value.slice (some ⟨b, 0, none⟩) n c).ownBlock = some g → (Value.slice (some ⟨b, 0, none⟩) n c).ownBlock = some g ∨ w.heap.size ≤ g := fun g hg => .inl hg
          have h3 : w.grownBy w1 (Value.slice (some ⟨b, 0, none⟩) n c).ownBlock := ⟨HB1.out.os, HB1.out.tape, HB1.out.output, HB1.out.size, fun k hk _ => HB1.out.block k hk⟩
          have hn := HNN.out
          subst hn
          exact ⟨_, _, rfl, h1, h3, h2⟩
        · rw [decide_eq_false hs]
          have HSN := hid hs
          clear hs
          go_wp2_with fail
          refine ⟨⟨k + 1, by omega, by go_num, fun j hj h => ?_, HB1.out⟩, ?_⟩
          · rcases HNE.out j hj h with h1 | h1
            · rw [h1]; intro e; injection e with e1 e2; exact HSN.out e2
            · exact h1
          · simp [intOf]; omega
      · have d1 : ((q1 : Int) == (end_ : Int)) = false := by simp; omega
        have HQN := hid hqe
        clear hqe
        go_wp2_with fail
        refine ⟨⟨k + 1, by omega, by go_num, fun j hj h => ?_, HB.out⟩, ?_⟩
        · rcases HNE.out j hj h with h1 | h1
          · rw [h1]; intro e; injection e with e1 e2; exact HQN.out e1
          · exact h1
        · simp [intOf]; omega
    · obtain rfl : k = n := by omega
      have hnm : (end_, sp) ∉ l := by
        intro hm
        obtain ⟨j, hj, hje⟩ := List.getElem_of_mem hm
        exact HE.out j hj (by have := HNN.out; omega) hje
      have hadd : Hid (addP l (end_, sp) = l ++ [(end_, sp)]) := by show _ = _; unfold addP; rw [if_neg hnm]
      clear hnm hlt
      go_wp2_with (at_builtin; refine wpList_append_ps rfl _ _ rfl base _ l [(end_, sp)] _ _ rfl ?c0 rfl (PsQ.lit (Row.new rfl) ?c1) ?c2 ?c3 ?_)
      case c0 => have := (HO.out.below HB.out).below ((Below.refl _ _).alloc (Nat.le_refl _) (.cells #[.int .i64 end_, .slice sa sp.length sc] 40)); exact this
      case c1 => exact (HS.out.below HB.out).below ((Below.refl _ _).alloc (Nat.le_refl _) _)
      case c2 => have := HNN.out; simp; omega
      case c3 => have := HB.out.size; simp; omega
      intro a2 n2 c2 w3 hn2 hown hgrow hnw
      have HOO := hid hown
      have HN2 := hid hn2
      have HGG := hid (grownBy_below (HB.out.trans (((Below.refl _ _).alloc (Nat.le_refl _) _).mono HB.out.size)) hgrow)
      have HNW := hid (fun g hg => (hnw g hg).imp id fun h => Nat.le_trans (by have := HB.out.size; simp; omega) h : ∀ g, (Value.slice a2 n2 c2).ownBlock = some g → (Value.slice a k c).ownBlock = some g ∨ w.heap.size ≤ g)
      clear hown hgrow hnw hn2
      go_wp2_with fail
      go_ret
      have hh := HN2.out
      subst hh
      have hlen : (l ++ [(end_, sp)]).length = l.length + 1 := by simp
      unfold AddPost
      rw [hadd.out, hlen]
      exact ⟨_, _, rfl, HOO.out, HGG.out, HNW.out⟩
end Go.Proofs.Ythnpbopnpdlmnaa
