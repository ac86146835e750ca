/- What the reference's pass keeps of the groups, and lists of facts of the reference. -/
import Derived.Test.YtibfnmkeghkdpaaRefAlt
namespace Go.Proofs.Ytibfnmkeghkdpaa
open Go.RowKit

/-- The slice value v owns the facts l (of the reference's type). -/
def OwnR (w : World) (base : Nat) (v : Value) (l : List Facts) : Prop := w.ownsRow base 69 7 v l.length (l.flatMap Facts.cells)
theorem OwnR.lt {w : World} {base : Nat} {v : Value} {l : List Facts} (h : OwnR w base v l) : ∀ g, v.ownBlock = some g → base ≤ g ∧ g < w.heap.size := World.ownsRow.lt h
theorem OwnR.but {w w' : World} {base M : Nat} {v : Value} {l : List Facts} (h : OwnR w base v l) (hb : But [M] w w') (hM : M < base) : OwnR w' base v l :=
  World.ownsRow.kept h (row := some M) ⟨hb.os, hb.tape, hb.output, hb.size, fun j hj hn => hb.block j hj (by simp; intro e; exact hn (by rw [e]))⟩ (by
    cases hv : v.ownBlock with
    | none => exact .inl rfl
    | some g => refine .inr fun e => ?_; cases e; have := h.lt _ hv; omega)
theorem OwnR.alloc {w : World} {base : Nat} {v : Value} {l : List Facts} (h : OwnR w base v l) (o : Obj) : OwnR (w.alloc o) base v l := World.ownsRow.alloc h o
theorem OwnR.elem {w : World} {base : Nat} {v : Value} {l : List Facts} (h : OwnR w base v l) (k : Nat) (f : Facts) (hk : l[k]? = some f) : ∃ g c, v = .slice (some ⟨g, 0, none⟩) l.length c ∧ base ≤ g ∧ g < w.heap.size ∧ CellsAt w g (k * 7) f.cells := by
  have hkl : k < l.length := by
    rcases Nat.lt_or_ge k l.length with h1 | h1
    · exact h1
    · simp [h1] at hk
  rcases h.2 with ⟨_, h0⟩ | ⟨g, cap, cur, rfl, hg, hcur, hnc, hcm, hsz, hx⟩
  · omega
  · refine ⟨g, cap, rfl, hg, ?_, fun j u hj => ?_⟩
    · exact (h.lt g rfl).2
    · have hj7 : j < 7 := by
        rcases Nat.lt_or_ge j 7 with h1 | h1
        · exact h1
        · simp [Facts.cells, h1] at hj
      rw [World.ownsRow.cellAt h (k * 7 + j) (by omega), flatF_get l k f j hk hj7, hj]
theorem OwnR.cap {w : World} {base : Nat} {a : Option Addr} {n c : Nat} {l : List Facts} (h : OwnR w base (.slice a n c) l) : l.length ≤ c := by
  rcases h.2 with ⟨_, h0⟩ | ⟨g, cap, cur, hv, hg, hcur, hnc, hcm, hsz, hx⟩
  · omega
  · injection hv with e1 e2 e3; omega
theorem OwnR.but1 {w w' : World} {base B gb n c : Nat} {l : List Facts} (h : OwnR w base (.slice (some ⟨gb, 0, none⟩) n c) l) (hb : But [B] w w') (hg : gb ≠ B) : OwnR w' base (.slice (some ⟨gb, 0, none⟩) n c) l :=
  World.ownsRow.kept h (row := some B) ⟨hb.os, hb.tape, hb.output, hb.size, fun j hj hn => hb.block j hj (by simp; intro e; exact hn (by rw [e]))⟩ (by
    refine .inr fun e => ?_
    simp [Value.ownBlock] at e
    exact hg e)

theorem OwnR.fat {w : World} {base gb n c : Nat} {l : List Facts} (h : OwnR w base (.slice (some ⟨gb, 0, none⟩) n c) l) : FAt w gb 0 l := fun k f hk => by
  obtain ⟨g, c', hsl, _, _, hce⟩ := h.elem k f hk
  injection hsl with e1 e2 e3
  injection e1 with e1
  injection e1 with e1
  subst e1
  rw [Nat.zero_add]
  exact hce

/-- What is known of the groups 1 .. n. -/
def kn (g : Int → Option Facts) (n : Nat) : List Facts := (List.range n).map fun k : Nat => (g ((k : Int) + 1)).getD Facts.zero
theorem kn_len (g : Int → Option Facts) (n : Nat) : (kn g n).length = n := by simp [kn]
theorem kn_get (g : Int → Option Facts) (n j : Nat) (h : j < n) : (kn g n)[j]? = some ((g ((j : Int) + 1)).getD Facts.zero) := by simp [kn, h]
theorem kn_put (g : Int → Option Facts) (n j : Nat) (F : Facts) : kn (fun k => if k = (j : Int) + 1 then some F else g k) n = (kn g n).set j F := by
  refine List.ext_getElem? fun i => ?_
  rcases Nat.lt_or_ge i n with h | h
  · rw [kn_get _ n i h]
    by_cases hij : j = i
    · subst hij
      rw [List.getElem?_set_self (by rw [kn_len]; exact h)]
      simp
    · rw [List.getElem?_set_ne hij, kn_get _ n i h]
      have : ¬ ((i : Int) + 1 = (j : Int) + 1) := by omega
      simp [this]
  · rw [List.getElem?_eq_none (by rw [kn_len]; exact h), List.getElem?_eq_none (by rw [List.length_set, kn_len]; exact h)]
theorem flat_set : ∀ (l : List Facts) (j : Nat) (F : Facts), j < l.length → (((((((l.flatMap Facts.cells).set (j * 7) (.bool F.null)).set (j * 7 + 1) (.int .i64 F.least)).set (j * 7 + 2) (.int .i64 F.most)).set (j * 7 + 3) (.int .u64 F.first.a)).set (j * 7 + 4) (.int .u64 F.first.b)).set (j * 7 + 5) (.int .u64 F.first.c)).set (j * 7 + 6) (.int .u64 F.first.d) = (l.set j F).flatMap Facts.cells
  | f :: l, 0, F, _ => by
    rw [List.set_cons_zero, List.flatMap_cons, List.flatMap_cons]
    rfl
  | f :: l, j + 1, F, h => by
    have ih := flat_set l j F (by simpa using h)
    rw [List.set_cons_succ, List.flatMap_cons, List.flatMap_cons, ← ih]
    have e : ∀ i, (j + 1) * 7 + i = (j * 7 + i) + 7 := fun i => by omega
    have e0 : (j + 1) * 7 = j * 7 + 7 := by omega
    rw [e0, show j * 7 + 7 + 1 = (j * 7 + 1) + 7 by omega, show j * 7 + 7 + 2 = (j * 7 + 2) + 7 by omega, show j * 7 + 7 + 3 = (j * 7 + 3) + 7 by omega, show j * 7 + 7 + 4 = (j * 7 + 4) + 7 by omega, show j * 7 + 7 + 5 = (j * 7 + 5) + 7 by omega, show j * 7 + 7 + 6 = (j * 7 + 6) + 7 by omega]
    rfl
/-- Blocks PB and KB are a pass that knows g of the groups 1 .. n. -/
def PAt (w : World) (PB KB n : Nat) (g : Int → Option Facts) : Prop :=
  Row w PB [.slice (some ⟨KB, 0, none⟩) n n] 89 ∧ Row w KB ((kn g n).flatMap Facts.cells) 69
theorem PAt.but {S : List Nat} {w w' : World} {PB KB n : Nat} {g : Int → Option Facts} (h : PAt w PB KB n g) (hb : But S w w') (h1 : PB ∉ S) (h2 : KB ∉ S) : PAt w' PB KB n g := ⟨h.1.but hb h1, h.2.but hb h2⟩
theorem PAt.below {w w' : World} {PB KB n : Nat} {g : Int → Option Facts} (h : PAt w PB KB n g) (hb : Below w.heap.size w w') : PAt w' PB KB n g := ⟨h.1.below hb h.1.lt, h.2.below hb h.2.lt⟩
theorem PAt.alloc {w : World} {PB KB n : Nat} {g : Int → Option Facts} (h : PAt w PB KB n g) (o : Obj) : PAt (w.alloc o) PB KB n g := ⟨h.1.alloc o, h.2.alloc o⟩
theorem PAt.get {w : World} {PB KB n : Nat} {g : Int → Option Facts} (h : PAt w PB KB n g) (j : Nat) (hj : j < n) : CellsAt w KB (j * 7) ((g ((j : Int) + 1)).getD Facts.zero).cells := fun i v hi => by
  rw [h.2.cell, ← hi]
  exact flatF_get _ _ _ _ (kn_get g n j hj) (by
    rcases Nat.lt_or_ge i 7 with h1 | h1
    · exact h1
    · simp [Facts.cells, h1] at hi)
theorem PAt.put {w : World} {PB KB n : Nat} {g : Int → Option Facts} (h : PAt w PB KB n g) (hne : PB ≠ KB) (j : Nat) (hj : j < n) (F : Facts) :
    PAt (((((((w.setCell ⟨KB, j * 7, none⟩ (.bool F.null)).setCell ⟨KB, j * 7 + 1, none⟩ (.int .i64 F.least)).setCell ⟨KB, j * 7 + 2, none⟩ (.int .i64 F.most)).setCell ⟨KB, j * 7 + 3, none⟩ (.int .u64 F.first.a)).setCell ⟨KB, j * 7 + 4, none⟩ (.int .u64 F.first.b)).setCell ⟨KB, j * 7 + 5, none⟩ (.int .u64 F.first.c)).setCell ⟨KB, j * 7 + 6, none⟩ (.int .u64 F.first.d)) PB KB n (fun k => if k = (j : Int) + 1 then some F else g k) := by
  refine ⟨((((((h.1.other hne _ _).other hne _ _).other hne _ _).other hne _ _).other hne _ _).other hne _ _).other hne _ _, ?_⟩
  rw [kn_put, ← flat_set _ _ _ (by rw [kn_len]; exact hj)]
  exact ((((((h.2.set _ _).set _ _).set _ _).set _ _).set _ _).set _ _).set _ _
theorem PAt.other7 {w : World} {PB KB n B : Nat} {g : Int → Option Facts} (h : PAt w PB KB n g) (h1 : PB ≠ B) (h2 : KB ≠ B) (a' b' c' d' e' f' g' : Value) : PAt (((((((w.setCell ⟨B, 0, none⟩ a').setCell ⟨B, 1, none⟩ b').setCell ⟨B, 2, none⟩ c').setCell ⟨B, 3, none⟩ d').setCell ⟨B, 4, none⟩ e').setCell ⟨B, 5, none⟩ f').setCell ⟨B, 6, none⟩ g') PB KB n g :=
  ⟨((((((h.1.other h1 _ _).other h1 _ _).other h1 _ _).other h1 _ _).other h1 _ _).other h1 _ _).other h1 _ _, ((((((h.2.other h2 _ _).other h2 _ _).other h2 _ _).other h2 _ _).other h2 _ _).other h2 _ _).other h2 _ _⟩

mutual
/-- The numbers of groups and references are between 1 and n. -/
def Re.inR (n : Nat) : Re → Bool
  | .mk p xs => decide (p.op = 6 ∨ p.op = 9 → 1 ≤ p.gr ∧ p.gr ≤ n) && Re.inRs n xs
def Re.inRs (n : Nat) : List Re → Bool
  | [] => true
  | t :: ts => t.inR n && Re.inRs n ts
end
theorem Re.inRs_get {n : Nat} : ∀ (xs : List Re), Re.inRs n xs = true → ∀ k (hk : k < xs.length), xs[k].inR n = true
  | [], _, k, hk => by simp at hk
  | t :: ts, h, 0, hk => by simp only [Re.inRs, Bool.and_eq_true] at h; exact h.1
  | t :: ts, h, k + 1, hk => by simp only [Re.inRs, Bool.and_eq_true] at h; exact Re.inRs_get ts h.2 k (by simpa using hk)
mutual
theorem Re.inR_of : ∀ (t : Re) (b m n : Nat) (l l' : List Int), t.ranged b = some m → m ≤ n → t.named l = some l' → (∀ k, k ∈ l → 1 ≤ k ∧ k ≤ (n : Int)) → t.inR n = true ∧ ∀ k, k ∈ l' → 1 ≤ k ∧ k ≤ (n : Int)
  | .mk p xs, b, m, n, l, l', h1, hm, h2, hl => by
    have hgr := Re.ranged_groups _ _ _ h1
    simp only [Re.groups, Re.count] at hgr
    rw [Re.ranged] at h1
    rw [Re.named] at h2
    rw [Re.inR, Bool.and_eq_true, decide_eq_true_eq]
    split at h1
    · cases h1
    split at h2
    · cases h2
    rename_i c5 c9
    cases hx : Re.nameds xs l with
    | none => rw [hx] at h2; cases h2
    | some lm =>
      rw [hx] at h2
      dsimp only at h2
      by_cases h6 : p.op = 6
      · rw [if_pos h6] at h1 h2
        split at h1
        · rename_i hg
          have hb := Re.rangeds_groups xs _ _ h1
          have q := Re.inRs_of xs (b + 1) m n l lm h1 hm hx hl
          refine ⟨⟨fun _ => by omega, q.1⟩, fun k hk => ?_⟩
          rw [← Option.some.inj h2] at hk
          rcases List.mem_append.1 hk with hk | hk
          · exact q.2 k hk
          · rw [List.mem_singleton.1 hk]; omega
        · cases h1
      · rw [if_neg h6] at h1 h2
        have q := Re.inRs_of xs b m n l lm h1 hm hx hl
        refine ⟨⟨fun h => ?_, q.1⟩, fun k hk => ?_⟩
        · rcases h with h | h
          · exact absurd h h6
          · exact hl _ (Classical.byContradiction fun k => c9 ⟨h, k⟩)
        · rw [← Option.some.inj h2] at hk
          exact q.2 k hk
theorem Re.inRs_of : ∀ (xs : List Re) (b m n : Nat) (l l' : List Int), Re.rangeds xs b = some m → m ≤ n → Re.nameds xs l = some l' → (∀ k, k ∈ l → 1 ≤ k ∧ k ≤ (n : Int)) → Re.inRs n xs = true ∧ ∀ k, k ∈ l' → 1 ≤ k ∧ k ≤ (n : Int)
  | [], b, m, n, l, l', h1, hm, h2, hl => by
    rw [Re.nameds] at h2
    rw [Re.inRs]
    exact ⟨rfl, by rw [← Option.some.inj h2]; exact hl⟩
  | t :: ts, b, m, n, l, l', h1, hm, h2, hl => by
    rw [Re.rangeds] at h1
    rw [Re.nameds] at h2
    cases hx : t.ranged b with
    | none => rw [hx] at h1; cases h1
    | some mx =>
      cases hy : t.named l with
      | none => rw [hy] at h2; cases h2
      | some lm =>
        rw [hx] at h1
        rw [hy] at h2
        have hg := Re.rangeds_groups ts mx m h1
        have q := Re.inR_of t b mx n l lm hx (by omega) hy hl
        have r := Re.inRs_of ts mx m n lm l' h1 hm h2 q.2
        rw [Re.inRs, q.1, r.1]
        exact ⟨rfl, r.2⟩
end
theorem Re.err_inR {t : Re} (h : t.err = 0) : t.inR t.groups = true := by
  obtain ⟨_, _, h3, h4, _⟩ := Re.err_zero h
  obtain ⟨m, hm⟩ := Option.isSome_iff_exists.1 h3
  obtain ⟨l, hl⟩ := Option.isSome_iff_exists.1 h4
  have hg := Re.ranged_groups t 0 m hm
  exact (Re.inR_of t 0 m t.groups [] l hm (by omega) hl (fun k hk => by cases hk)).1
end Go.Proofs.Ytibfnmkeghkdpaa
