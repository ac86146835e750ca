/- The reference of the parses: a visit. -/
import Derived.Test.YthnpbopnpdlmnaaX35
import Derived.Deep.Cut
import Derived.Deep.RegionLaw
import Derived.Deep.RegionWith
namespace Go.Proofs.Ythnpbopnpdlmnaa
open Go.RowKit
attribute [local go_sem] gives givesUpon

section
variable (p : Pay) (gs : List Nat) (child : Nat → Spans → Option (List Parse))
def vstep (f c i : Nat) (st : List Sit × List Parse) (q : Parse) : Option (List Sit × List Parse) := if q.1 = i ∧ p.lo ≤ (c : Int) then some st else visit p gs child f (c + 1, q.1, q.2) st
def vfold (f c i : Nat) (sp : Spans) (seen : List Sit) (out : List Parse) : Option (List Sit × List Parse) :=
  if p.hi < 0 ∨ (c : Int) < p.hi then (child i (unset sp gs)).bind fun l => l.foldlM (vstep p gs child f c i) (seen ++ [(c, i, sp)], out) else some (seen ++ [(c, i, sp)], out)
def vend (c i : Nat) (sp : Spans) (st : List Sit × List Parse) : List Sit × List Parse := (st.1, if p.lo ≤ (c : Int) then st.2 ++ [(i, sp)] else st.2)
theorem visit_body (f c0 i : Nat) (sp : Spans) (seen : List Sit) (out : List Parse) (c : Nat) (hc : c = if p.hi < 0 ∧ p.lo < (c0 : Int) then p.lo.toNat else c0) : visit p gs child (f + 1) (c0, i, sp) (seen, out) =
    if (c, i, sp) ∈ seen then some (seen, out) else if most < seen.length + 1 then none else (vfold p gs child f c i sp seen out).bind fun st => some (vend p c i sp st) := by
  subst hc
  rw [visit]
  rfl
end
theorem foldlM_step {α σ : Type} {f : σ → α → Option σ} {l : List α} {k : Nat} {q : α} {s s1 : σ} (h : l[k]? = some q) (h1 : (l.take k).foldlM f s = some s1) : (l.take (k + 1)).foldlM f s = f s1 q := by
  rw [List.take_add_one, h, List.foldlM_append, h1]
  cases hq : f s1 q <;> simp [hq]
theorem foldlM_none {α σ : Type} {f : σ → α → Option σ} {l : List α} {k : Nat} {q : α} {s s1 : σ} (h : l[k]? = some q) (h1 : (l.take k).foldlM f s = some s1) (h2 : f s1 q = none) : l.foldlM f s = none := by
  have hk : k < l.length := (List.getElem?_eq_some_iff.1 h).1
  have e : l = l.take (k + 1) ++ l.drop (k + 1) := (List.take_append_drop _ _).symm
  rw [e, List.foldlM_append, foldlM_step h h1, h2]
  rfl

theorem Fr.push {X : Nat} {w x y w' : World} {va : Option Addr} {vn vc n c g : Nat} {ov : Value} (hb : Below w.heap.size w x) (hg : x.grownBy y (Value.slice va vn vc).ownBlock) (hat : (Value.slice va vn vc).ownBlock = some g ∨ g = x.heap.size) (hw : w' = y.setCell ⟨X, 11, none⟩ (.slice (some ⟨g, 0, none⟩) n c)) : Fr X w (.slice va vn vc) ov w' (.slice (some ⟨g, 0, none⟩) n c) ov := by
  subst hw
  refine ⟨?_, fun g' hg' => ?_, fun g' hg' => .inl hg'⟩
  · refine ((But.of_below hb).later (⟨hg.os, hg.tape, hg.output, hg.size, fun k hk hk2 => hg.block k hk (fun e => hk2 (by simp [mem_blk.2 e.symm]))⟩ : But (X :: (blk (Value.slice va vn vc) ++ blk ov)) x y) (fun i hi => .inl hi)).setCell (p := ⟨X, 11, none⟩) (.inl (by simp)) _
  · have : g = g' := by simpa [Value.ownBlock] using hg'
    subst this
    rcases hat with h | h
    · exact .inl h
    · exact .inr (by have := hb.size; omega)
theorem Row.pushed {x y w' : World} {X b : Nat} {va : Option Addr} {vn vc : Nat} {cs cx : List Value} {T TX : TypeId} {u : Value} (hr : Row x b cs T) (hX : Row x X cx TX) (hne : T ≠ TX) (hb : (Value.slice va vn vc).ownBlock ≠ some b) (hg : x.grownBy y (Value.slice va vn vc).ownBlock) (hw : w' = y.setCell ⟨X, 11, none⟩ u) : Row w' b cs T := by
  subst hw
  have h1 : Row y b cs T := (hg.block b hr.lt (fun e => hb e.symm)).trans hr
  exact h1.other (fun e => hne (by subst e; exact hr.typed hX)) _ _

theorem Fr.newOut {X : Nat} {x y w' : World} {sv : Value} {va : Option Addr} {vn vc n c : Nat} {a : Option Addr} (hg : x.grownBy y (Value.slice va vn vc).ownBlock) (hat : ∀ g, (Value.slice a n c).ownBlock = some g → (Value.slice va vn vc).ownBlock = some g ∨ x.heap.size ≤ g) (hw : w' = y.setCell ⟨X, 12, none⟩ (.slice a n c)) : Fr X x sv (.slice va vn vc) w' sv (.slice a n c) := by
  subst hw
  refine ⟨?_, fun g' hg' => .inl hg', fun g' hg' => hat g' hg'⟩
  exact (⟨hg.os, hg.tape, hg.output, hg.size, fun k hk hk2 => hg.block k hk (fun e => hk2 (by simp [mem_blk.2 e.symm]))⟩ : But (X :: (blk sv ++ blk (Value.slice va vn vc))) x y).setCell (p := ⟨X, 12, none⟩) (.inl (by simp)) _
theorem LpAt.grownX {s : ByteArray} {lines : Bool} {E0 E1 E2 E3 E4 E5 E6 E7 E8 : Value} {base X : Nat} {sv ov : Value} {seen : List Sit} {out : List Parse} {x y : World} (h : LpAt s lines E0 E1 E2 E3 E4 E5 E6 E7 E8 base X sv ov seen out x) (hg : x.grownBy y ov.ownBlock) : Row y X [.string s, .bool lines, E0, E1, E2, E3, E4, E5, E6, E7, E8, sv, ov] 127 := by
  obtain ⟨_, Lo, _, _, o3⟩ := h.2.2.1
  exact h.1.grownOwn o3 (by decide) hg
section
variable {p : Pay} {gs : List Nat} {child : Nat → Spans → Option (List Parse)}
theorem vstep_len {f c i : Nat} (ih : ∀ (x : Sit) (st st' : List Sit × List Parse), visit p gs child f x st = some st' → st'.2.length + st.1.length ≤ st'.1.length + st.2.length) : ∀ (l : List Parse) (s0 st' : List Sit × List Parse), l.foldlM (vstep p gs child f c i) s0 = some st' → st'.2.length + s0.1.length ≤ st'.1.length + s0.2.length := by
  intro l
  induction l with
  | nil =>
    intro s0 st' h
    have := Option.some.inj h
    subst this
    omega
  | cons q l ihl =>
    intro s0 st' h
    rw [List.foldlM_cons] at h
    obtain ⟨s1, h1, h2⟩ := Option.bind_eq_some_iff.1 h
    have h3 := ihl s1 st' h2
    unfold vstep at h1
    split at h1
    · have := Option.some.inj h1
      subst this
      exact h3
    · have h4 := ih _ _ _ h1
      omega
theorem vfold_len {f c i : Nat} {sp : Spans} {seen : List Sit} {out : List Parse} {st' : List Sit × List Parse} (ih : ∀ (x : Sit) (st st' : List Sit × List Parse), visit p gs child f x st = some st' → st'.2.length + st.1.length ≤ st'.1.length + st.2.length) (h : vfold p gs child f c i sp seen out = some st') : st'.2.length + (seen.length + 1) ≤ st'.1.length + out.length := by
  unfold vfold at h
  split at h
  · obtain ⟨l, h1, h2⟩ := Option.bind_eq_some_iff.1 h
    have := vstep_len ih l _ _ h2
    simpa using this
  · have := Option.some.inj h
    subst this
    simp; omega
theorem visit_len : ∀ (f : Nat) (x : Sit) (st st' : List Sit × List Parse), visit p gs child f x st = some st' → st'.2.length + st.1.length ≤ st'.1.length + st.2.length
  | 0, x, st, st', h => by rw [visit] at h; cases h
  | f + 1, (c0, i, sp), (seen, out), st', h => by
    obtain ⟨c, hc⟩ : ∃ c : Nat, c = if p.hi < 0 ∧ p.lo < (c0 : Int) then p.lo.toNat else c0 := ⟨_, rfl⟩
    rw [visit_body p gs child f c0 i sp seen out c hc] at h
    by_cases h5 : (c, i, sp) ∈ seen
    · rw [if_pos h5] at h
      have := Option.some.inj h
      subst this
      dsimp only
      omega
    rw [if_neg h5] at h
    by_cases h6 : most < seen.length + 1
    · rw [if_pos h6] at h
      cases h
    · rw [if_neg h6] at h
      obtain ⟨s1, h1, h2⟩ := Option.bind_eq_some_iff.1 h
      have h3 := vfold_len (visit_len f) h1
      have := Option.some.inj h2
      subst this
      unfold vend
      dsimp only
      split <;> simp <;> omega
end
def VisAt (N : Nat) (s : ByteArray) (lines : Bool) (E0 E1 E2 E3 E4 E5 E6 E7 E8 : Value) (base X : Nat) (w : World) (sv ov : Value) (m c i : Nat) (spv : Value) (sp : Spans) (st : List Sit × List Parse) (sv' ov' : Value) (y : World) : Prop :=
  LpAt s lines E0 E1 E2 E3 E4 E5 E6 E7 E8 base X sv' ov' st.1 st.2 y ∧ Row y w.heap.size [.int .i64 c, .int .i64 i, spv] 130 ∧ Fr X w sv ov y sv' ov' ∧ SpQ y spv sp ∧ sv'.ownBlock ≠ some w.heap.size ∧ (m + 1 ≤ 4096 → StOk N s.size st) ∧ m < st.1.length ∧ w.heap.size < y.heap.size
section
variable {N : Nat} {s : ByteArray} {lines : Bool} {E0 E1 E2 E3 E4 E5 E6 E7 E8 : Value} {base X : Nat} {w : World} {sv ov : Value} {m c i : Nat} {spv : Value} {sp : Spans} {st : List Sit × List Parse} {sv' ov' : Value} {y : World}
theorem VisAt.later {z : World} (h : VisAt N s lines E0 E1 E2 E3 E4 E5 E6 E7 E8 base X w sv ov m c i spv sp st sv' ov' y) (hb : Below y.heap.size y z) : VisAt N s lines E0 E1 E2 E3 E4 E5 E6 E7 E8 base X w sv ov m c i spv sp st sv' ov' z := by
  obtain ⟨h1, h2, h3, h4, h5, h6, h7, h8⟩ := h
  exact ⟨h1.later hb, h2.below hb h2.lt, h3.trans (Fr.of_below hb), h4.below hb, h5, h6, h7, Nat.lt_of_lt_of_le h8 hb.size⟩
theorem VisAt.step {z : World} {st2 : List Sit × List Parse} {sv2 ov2 : Value} (h : VisAt N s lines E0 E1 E2 E3 E4 E5 E6 E7 E8 base X w sv ov m c i spv sp st sv' ov' y) (hf : Fr X y sv' ov' z sv2 ov2) (hl : LpAt s lines E0 E1 E2 E3 E4 E5 E6 E7 E8 base X sv2 ov2 st2.1 st2.2 z) (ho : StOk N s.size st2) (hm : st.1.length ≤ st2.1.length) : VisAt N s lines E0 E1 E2 E3 E4 E5 E6 E7 E8 base X w sv ov m c i spv sp st2 sv2 ov2 z := by
  obtain ⟨h1, h2, h3, h4, h5, h6, h7, h8⟩ := h
  refine ⟨hl, h2.but hf.but (h1.sit h2 h5), h3.trans hf, h1.fr_span hf h4, fun e => ?_, fun _ => ho, Nat.lt_of_lt_of_le h7 hm, Nat.lt_of_lt_of_le h8 hf.but.size⟩
  rcases hf.s _ e with h9 | h9
  · exact h5 h9
  · omega
end
theorem sit_one (a b : Int) (sa : Option Addr) (n c : Nat) : ∀ u, u ∈ ([.int .i64 a, .int .i64 b, .slice sa n c] : List Value) → u.oneCell' = true := by
  intro u hu
  simp only [List.mem_cons, List.not_mem_nil, or_false] at hu
  rcases hu with rfl | rfl | rfl <;> rfl
set_option maxRecDepth 100000 in
set_option maxHeartbeats 32000000 in
theorem rvisit_any (wb : World) (N : Nat) (hN : N ≤ 9) (s : ByteArray) (hs : s.size ≤ 1000000) (lines : Bool) (p : Pay) (x0 : Re) (bb o cap : Nat) (hop : p.op = 5) (HX0 : RPar wb N s lines x0) (hIn : (Re.mk p [x0]).In wb [.int .i64 p.op, .int .u64 p.set.a, .int .u64 p.set.b, .int .u64 p.set.c, .int .u64 p.set.d, .int .i64 p.lo, .int .i64 p.hi, .int .i64 p.gr, .slice (some ⟨bb, o, none⟩) 1 cap]) (hok : (Re.mk p [x0]).ok N) (hsz : (Re.mk p [x0]).size ≤ 20) (hlo : 0 ≤ p.lo ∧ p.lo ≤ 1000) (hhi : -1 ≤ p.hi ∧ p.hi ≤ 1000) (base X : Nat) (hwb : wb.heap.size ≤ base) :
    ∀ (f : Nat) (w : World) (sv ov : Value) (seen : List Sit) (out : List Parse) (c0 i : Nat) (sa : Option Addr) (sc : Nat) (sp : Spans), LpAt s lines (.int .i64 p.op) (.int .u64 p.set.a) (.int .u64 p.set.b) (.int .u64 p.set.c) (.int .u64 p.set.d) (.int .i64 p.lo) (.int .i64 p.hi) (.int .i64 p.gr) (.slice (some ⟨bb, o, none⟩) 1 cap) base X sv ov seen out w → Below wb.heap.size wb w → StOk N s.size (seen, out) → SpQ w (.slice sa sp.length sc) sp → SpOk N s.size sp → i ≤ s.size → c0 ≤ 1001 → 4097 ≤ f + seen.length →
    Calls Try.prog 72 #[.pointer (some ⟨X, 0, none⟩), .agg #[.int .i64 c0, .int .i64 i, .slice sa sp.length sc]] w (VisPost N s lines (.int .i64 p.op) (.int .u64 p.set.a) (.int .u64 p.set.b) (.int .u64 p.set.c) (.int .u64 p.set.d) (.int .i64 p.lo) (.int .i64 p.hi) (.int .i64 p.gr) (.slice (some ⟨bb, o, none⟩) 1 cap) base X sv ov seen.length w (visit p (withinAll [x0]) (firstP s.data.toList lines [x0]) f (c0, i, sp) (seen, out))) := by
  intro f
  induction f with
  | zero => intro w sv ov seen out c0 i sa sc sp h hbw hst hsp hspo hi hc0 hf; have := hst.2.1; dsimp only at this; omega
  | succ f ih =>
    intro w sv ov seen out c0 i sa sc sp h hbw hst hsp hspo hi hc0 hf
    have hb1 : Below w.heap.size w (w.alloc (.cells #[.int .i64 c0, .int .i64 i, .slice sa sp.length sc] 130)) := (Below.refl _ _).alloc (Nat.le_refl _) _
    have HB1 := hid hb1
    have HLP := hid (h.later hb1)
    have HR := hid (Row.new (w := w) (cs := [.int .i64 c0, .int .i64 i, .slice sa sp.length sc]) (T := 130) rfl)
    have HS := hid (hsp.below hb1)
    have HBW := hid hbw
    have HST := hid hst
    have HSO := hid hspo
    have HIH := hid ih
    have HIN := hid hIn
    have HOK := hid hok
    have HCHILD := hid HX0
    have HW := hid h
    have HF := hid hf
    have HWB := hid hwb
    have HOP := hid hop
    have hspl : sp.length ≤ 9 := by have := hspo.1; omega
    have hsv : ∃ va vn vc, sv = .slice va vn vc := by obtain ⟨a, c, e⟩ := h.2.1.form; exact ⟨_, _, _, e⟩
    have hov : ∃ va vn vc, ov = .slice va vn vc := by obtain ⟨a, c, e⟩ := h.2.2.1.form; exact ⟨_, _, _, e⟩
    have hseenl : seen.length ≤ 4096 := hst.2.1
    obtain ⟨va, vn, vc, rfl⟩ := hsv
    obtain ⟨ua, un, uc, rfl⟩ := hov
    have HC := hid (fun (x : World) (hx : Grow ((w.alloc (.cells #[.int .i64 c0, .int .i64 i, .slice sa sp.length sc] 130))).drew x) => (⟨(HLP.out.later (grow_below hx)).c, (HR.out.grow hx).three9⟩ : _ ∧ _))
    have hcl : ∃ c : Nat, c ≤ 1001 ∧ Hid (c = if p.hi < 0 ∧ p.lo < (c0 : Int) then p.lo.toNat else c0) ∧ ((decide (p.hi < 0) = true ∧ decide (p.lo < (c0 : Int)) = true ∧ Hid (p.lo = (c : Int))) ∨ ((decide (p.hi < 0) = false ∨ (decide (p.hi < 0) = true ∧ decide (p.lo < (c0 : Int)) = false)) ∧ Hid (c0 = c))) := by
      by_cases h1 : p.hi < 0 ∧ p.lo < (c0 : Int)
      · refine ⟨p.lo.toNat, by omega, ?_, .inl ⟨by simp [h1.1], by simp [h1.2], ?_⟩⟩
        · show _ = _
          rw [if_pos h1]
        · show _ = _
          omega
      · refine ⟨c0, by omega, ?_, .inr ⟨?_, rfl⟩⟩
        · show _ = _
          rw [if_neg h1]
        · by_cases h2 : p.hi < 0
          · right; refine ⟨by simp [h2], ?_⟩; simp; omega
          · left; simp; omega
    obtain ⟨c, hc1, HCL, hcl⟩ := hcl
    have HOWN : Hid (∀ g, (Value.slice va vn vc).ownBlock = some g → g < w.heap.size) := fun g hg => (h.2.1.lt g hg).2
    clear h hbw hst hsp hspo ih hIn hok HX0 hb1 hf hwb hop
    go_enter Try.func72, Try.ntmps72
    apply wp_seq_k
    intro K0 hK0
    have HK0 := hid hK0
    clear hK0
    go_wp2_with fail
    refine HK0.out _ _ ?_
    clear HK0
    apply wp_seq_k
    intro K1 hK1
    go_cut [] from 8 (fun (y : World) => LpAt s lines (.int .i64 p.op) (.int .u64 p.set.a) (.int .u64 p.set.b) (.int .u64 p.set.c) (.int .u64 p.set.d) (.int .i64 p.lo) (.int .i64 p.hi) (.int .i64 p.gr) (.slice (some ⟨bb, o, none⟩) 1 cap) base X (.slice va vn vc) (.slice ua un uc) seen out y ∧ Row y w.heap.size [.int .i64 c, .int .i64 i, .slice sa sp.length sc] 130 ∧ Below w.heap.size w y ∧ SpQ y (.slice sa sp.length sc) sp)
    case first =>
      rcases hcl with ⟨d1, d2, HCC⟩ | ⟨d1 | ⟨d1, d2⟩, HCC⟩
      all_goals
        go_wp2_with fail
        refine wp_region_inv 16 (Grow) (by kernel_rfl) (by kernel_rfl) (Grow.refl) (fun _ _ _ => Grow.trans) ?_
        simp only [fill, dstOf, Act.put, List.take_succ_cons, List.take_zero, List.getElem?_toArray, List.getElem?_cons_zero, List.getElem?_cons_succ, Option.bind_some, List.setIfInBounds_toArray, List.set_cons_zero, List.set_cons_succ]
        refine Plan.det 1 rfl (Grow.refl) ?_
        apply Exists.intro
        refine ⟨fun vs x hR hF K hK => ?_, ?_⟩
        · clear hF
          go_simp
          exact hK _ _ (Grow.refl _) rfl
        refine Plan.det 2 rfl (Grow.refl) ?_
        apply Exists.intro
        refine ⟨fun vs x hR hF K hK => ?_, ?_⟩
        · have f0 := hF 0 _ _ rfl rfl; clear hF
          go_simp
          exact hK _ _ (Grow.refl _) rfl
        refine Plan.det 3 rfl (Grow.refl) ?_
        apply Exists.intro
        refine ⟨fun vs x hR hF K hK => ?_, ?_⟩
        · have f1 := hF 0 _ _ rfl rfl; clear hF
          go_simp
          exact hK _ _ (Grow.refl _) rfl
        refine Plan.det 4 rfl (Grow.refl) ?_
        apply Exists.intro
        refine ⟨fun vs x hR hF K hK => ?_, ?_⟩
        · have f2 := hF 0 _ _ rfl rfl; clear hF
          go_simp
          exact hK _ _ (Grow.refl _) rfl
        refine Plan.det 5 rfl (Grow.refl) ?_
        apply Exists.intro
        refine ⟨fun vs x hR hF K hK => ?_, ?_⟩
        · have f3 := hF 0 _ _ rfl rfl; have hc := HC.out x hR; clear hF
          go_simp
          exact hK _ _ (Grow.refl _) rfl
        refine Plan.det 6 rfl (Grow.refl) ?_
        apply Exists.intro
        refine ⟨fun vs x hR hF K hK => ?_, ?_⟩
        · have f4 := hF 0 _ _ rfl rfl; clear hF
          go_simp
          exact hK _ _ (Grow.refl _) rfl
        refine Plan.det 7 rfl (Grow.refl) ?_
        apply Exists.intro
        refine ⟨fun vs x hR hF K hK => ?_, ?_⟩
        · have f5 := hF 0 _ _ rfl rfl; clear hF
          go_simp
          exact hK _ _ (Grow.refl _) rfl
        refine Plan.det 8 rfl (Grow.refl) ?_
        apply Exists.intro
        refine ⟨fun vs x hR hF K hK => ?_, ?_⟩
        · have f6 := hF 0 _ _ rfl rfl; clear hF
          go_simp
          exact hK _ _ (Grow.refl _) rfl
        refine Plan.det 9 rfl (Grow.refl) ?_
        apply Exists.intro
        refine ⟨fun vs x hR hF K hK => ?_, ?_⟩
        · have f6 := hF 1 _ _ rfl rfl; have f7 := hF 0 _ _ rfl rfl; have hc := HC.out x hR; clear hF
          go_simp
          exact hK _ _ (Grow.refl _) rfl
        refine Plan.det 10 rfl (Grow.refl) ?_
        apply Exists.intro
        refine ⟨fun vs x hR hF K hK => ?_, ?_⟩
        · have f6 := hF 2 _ _ rfl rfl; clear hF
          go_simp
          exact hK _ _ (Grow.refl _) rfl
        refine Plan.det 11 rfl (Grow.refl) ?_
        apply Exists.intro
        refine ⟨fun vs x hR hF K hK => ?_, ?_⟩
        · have f6 := hF 3 _ _ rfl rfl; have f9 := hF 0 _ _ rfl rfl; clear hF
          go_simp
          exact hK _ _ (Grow.refl _) rfl
        refine Plan.det 12 rfl (Grow.refl) ?_
        apply Exists.intro
        refine ⟨fun vs x hR hF K hK => ?_, ?_⟩
        · have f6 := hF 4 _ _ rfl rfl; have f10 := hF 0 _ _ rfl rfl; clear hF
          go_simp
          exact hK _ _ (Grow.refl _) rfl
        refine Plan.det 13 rfl (Grow.refl) ?_
        apply Exists.intro
        refine ⟨fun vs x hR hF K hK => ?_, ?_⟩
        · have f6 := hF 5 _ _ rfl rfl; have f11 := hF 0 _ _ rfl rfl; clear hF
          go_simp
          exact hK _ _ (Grow.refl _) rfl
        refine Plan.det 14 rfl (Grow.refl) ?_
        apply Exists.intro
        refine ⟨fun vs x hR hF K hK => ?_, ?_⟩
        · have f6 := hF 6 _ _ rfl rfl; have f12 := hF 0 _ _ rfl rfl; have hc := HC.out x hR; clear hF
          go_simp
          exact hK _ _ (Grow.refl _) rfl
        refine Plan.det 15 rfl (Grow.refl) ?_
        apply Exists.intro
        refine ⟨fun vs x hR hF K hK => ?_, ?_⟩
        · have f6 := hF 7 _ _ rfl rfl; have f8 := hF 5 _ _ rfl rfl; have f13 := hF 0 _ _ rfl rfl; clear hF
          go_simp
          exact hK _ _ (Grow.refl _) rfl
        refine Plan.det 16 rfl (Grow.refl) ?_
        apply Exists.intro
        refine ⟨fun vs x hR hF K hK => ?_, ?_⟩
        · have f6 := hF 8 _ _ rfl rfl; have f14 := hF 0 _ _ rfl rfl; clear hF
          go_simp
          exact hK _ _ (Grow.refl _) rfl
        refine Plan.nil (fun vs x hR hF => ?_)
        have f0 := hF 15 _ _ rfl; have f1 := hF 14 _ _ rfl; have f2 := hF 13 _ _ rfl; have f3 := hF 12 _ _ rfl; have f4 := hF 11 _ _ rfl; have f5 := hF 10 _ _ rfl; have f6 := hF 9 _ _ rfl; have f7 := hF 8 _ _ rfl; have f8 := hF 7 _ _ rfl; have f9 := hF 6 _ _ rfl; have f10 := hF 5 _ _ rfl; have f11 := hF 4 _ _ rfl; have f12 := hF 3 _ _ rfl; have f13 := hF 2 _ _ rfl; have f14 := hF 1 _ _ rfl; have f15 := hF 0 _ _ rfl
        clear hF
        simp only [f0, f1, f2, f3, f4, f5, f6, f7, f8, f9, f10, f11, f12, f13, f14, f15]
        clear f0 f1 f2 f3 f4 f5 f6 f7 f8 f9 f10 f11 f12 f13 f14 f15
        simp only [List.drop_succ_cons, List.drop_zero]
        have q1 := (HR.out.grow hR).three9
        have q2 := (HR.out.grow hR).free 0
        have q0 := (HLP.out.later (grow_below hR)).c
        have HRX := hid (HR.out.grow hR)
        have HLX := hid (HLP.out.later (grow_below hR))
        have HBX := hid (HB1.out.trans ((grow_below hR).mono HB1.out.size))
        clear HC
        go_wp2_with fail
        go_meet
        first
        | (refine ⟨HLX.out.aside ((But.refl [w.heap.size] x).setCell (p := ⟨w.heap.size, 0, none⟩) (.inl (by simp)) _) HRX.out (fun e => by have := HOWN.out _ e; omega), by have h5 := HRX.out.set 0 (.int .i64 p.lo); have e9 : ([.int .i64 c0, .int .i64 i, .slice sa sp.length sc] : List Value).set 0 (.int .i64 p.lo) = [.int .i64 c, .int .i64 i, .slice sa sp.length sc] := (by rw [HCC.out]; rfl); rw [e9] at h5; exact h5, HBX.out.setCell (by simp) _, (HS.out.below (grow_below hR)).of (fun b8 cs8 hr8 => hr8.other (fun e => by subst e; exact absurd (hr8.typed HRX.out) (by decide)) _ _)⟩; done)
        | (refine ⟨HLX.out, by have h5 := HRX.out; rw [HCC.out] at h5; exact h5, HBX.out, HS.out.below (grow_below hR)⟩; done)
    clear hcl HC HR HLP HB1
    have HYF := hid hcut
    clear hcut
    generalize wc = y at HYF ⊢
    have q0 := HYF.out.1.c
    have q1 := HYF.out.2.1.three9
    have HSY := hid HYF.out.2.2.2
    have hsl9 : ∀ z, z ∈ seen → z.2.2.length ≤ 9 := HST.out.1
    have hsn : seen.length ≤ 10000 := by omega
    have HSN := hid (rseen_any s lines _ _ _ _ _ _ _ _ _ base X (.slice va vn vc) (.slice ua un uc) seen out y c i sa sc sp HYF.out.1 HSY.out hspl hsl9 hsn)
    clear hsl9 hsn
    have HVB := hid (visit_body p (withinAll [x0]) (firstP s.data.toList lines [x0]) f c0 i sp seen out c HCL.out)
    refine hK1 _ _ ?_
    clear hK1
    go_wp2_with fail
    refine HSN.out.mono ?_
    clear HSN
    rintro e z ⟨rfl, hbz⟩
    have HZ := hid (⟨HYF.out.1.later hbz, HYF.out.2.1.below hbz HYF.out.2.1.lt, HYF.out.2.2.1.trans (hbz.mono HYF.out.2.2.1.size), HSY.out.below hbz⟩ : LpAt s lines (.int .i64 p.op) (.int .u64 p.set.a) (.int .u64 p.set.b) (.int .u64 p.set.c) (.int .u64 p.set.d) (.int .i64 p.lo) (.int .i64 p.hi) (.int .i64 p.gr) (.slice (some ⟨bb, o, none⟩) 1 cap) base X (.slice va vn vc) (.slice ua un uc) seen out z ∧ Row z w.heap.size [.int .i64 c, .int .i64 i, .slice sa sp.length sc] 130 ∧ Below w.heap.size w z ∧ SpQ z (.slice sa sp.length sc) sp)
    clear hbz q0 q1 HYF HSY
    have q0 := HZ.out.1.c
    have q1 := HZ.out.2.1.three9
    by_cases hm : (c, i, sp) ∈ seen
    · rw [decide_eq_true hm]
      have HV : Hid (visit p (withinAll [x0]) (firstP s.data.toList lines [x0]) (f + 1) (c0, i, sp) (seen, out) = some (seen, out)) := by show _ = _; rw [HVB.out, if_pos hm]
      clear hm
      go_wp2_with fail
      go_ret
      exact ⟨_, _, by rw [HV.out]; rfl, Fr.of_below HZ.out.2.2.1, fun st' hst' => by rw [HV.out] at hst'; have := Option.some.inj hst'; subst this; exact ⟨HZ.out.1, HST.out, Nat.le_refl _⟩⟩
    rw [decide_eq_false hm]
    have HM := hid hm
    clear hm
    go_upto_region 5 with fail
    rename_i K5 hK5
    go_cut [] from 8 (fun (y : World) => ∃ g2 c2, VisAt N s lines (.int .i64 p.op) (.int .u64 p.set.a) (.int .u64 p.set.b) (.int .u64 p.set.c) (.int .u64 p.set.d) (.int .i64 p.lo) (.int .i64 p.hi) (.int .i64 p.gr) (.slice (some ⟨bb, o, none⟩) 1 cap) base X w (.slice va vn vc) (.slice ua un uc) seen.length c i (.slice sa sp.length sc) sp (seen ++ [(c, i, sp)], out) (.slice (some ⟨g2, 0, none⟩) (seen.length + 1) c2) (.slice ua un uc) y)
    case first =>
      obtain ⟨i0, hi0, hz0, hz1, hz2⟩ := info_parts info_sit
      obtain ⟨L, hL1, hL2, hL3⟩ := HZ.out.1.2.1
      have HBX := hid (((Below.refl z.heap.size z).alloc (Nat.le_refl _) (.cells #[.int .i64 c, .int .i64 i, .slice sa sp.length sc] 130)).drew)
      have HLL := hid (And.intro hL1 (And.intro (show SL (z.alloc (.cells #[.int .i64 c, .int .i64 i, .slice sa sp.length sc] 130)).drew L from fun u hu => (hL2 u hu).below HBX.out) (World.ownsRow.drew (World.ownsRow.alloc hL3 (.cells #[.int .i64 c, .int .i64 i, .slice sa sp.length sc] 130)))))
      clear hL1 hL2 hL3
      have HNEW := hid (Row.new (w := z) (B := z.heap.size) (cs := [.int .i64 c, .int .i64 i, .slice sa sp.length sc]) (T := 130) rfl).drew
      have HLX := hid (HZ.out.1.later HBX.out)
      have hbz : base ≤ z.heap.size := Nat.le_trans HZ.out.1.2.2.2 (Nat.le_of_lt HZ.out.1.1.lt)
      have hxf := HZ.out.1.1.free 11
      have hsz1 : w.heap.size < z.heap.size := HZ.out.2.1.lt
      have hxl : X < z.heap.size := HZ.out.1.1.lt
      go_region_law (refine step_append_lies _ rfl (.tmp 37) (.tmp 39) 125 rfl base 130 i0 (.agg #[.int .i64 0, .int .i64 0, .slice none 0 0]) 3 40 Try.underlying125 hi0 hz0 hz1 hz2 rfl (by decide) (.slice va vn vc) seen.length (L.flatMap scell) (by simp [Act.eval]) HLL.out.2.2 ⟨z.heap.size, 0, none⟩ 1 1 [.int .i64 c, .int .i64 i, .slice sa sp.length sc] (by simp [Act.eval]) rfl (fun j u hj => by rw [Addr.add_lit, Nat.zero_add, HNEW.out.cell, hj]) (sit_one _ _ _ _ _) (by decide) (by unfold maxLen; omega) (by omega) (by simp; omega) _ rfl ?_; intro g2 c2 w3 hown hgrow hat hlt; have hr3 := HLX.out.1.grownOwn HLL.out.2.2 (by decide) hgrow; have q3 : w3.cell? ⟨X, 11, none⟩ = some (.slice va vn vc) ∧ w3.frozen? ⟨X, 11, none⟩ = false := ⟨hr3.cell 11, hr3.free 11⟩)
      all_goals
        have HAP := hid (And.intro hown (And.intro hgrow hat))
        clear hown hgrow hat q3 hr3
        go_wp2_with fail
        go_meet
        have hg2 : g2 ≠ w.heap.size := by
          rcases HAP.out.2.2 with h9 | h9
          · have := HOWN.out _ h9; omega
          · have := HBX.out.size; omega
        have hsz3 := HAP.out.2.1.size
        refine ⟨g2, c2, HLX.out.push HLL.out.1 HLL.out.2.1 HLL.out.2.2 rfl (st := (c, i, sp)) (HZ.out.2.2.2.below HBX.out) HAP.out.1 HAP.out.2.1 rfl, (HZ.out.2.1.below HBX.out HZ.out.2.1.lt).pushed HLX.out.1 (by decide) (fun e => by have := HOWN.out _ e; omega) HAP.out.2.1 rfl, Fr.push (HZ.out.2.2.1.trans (HBX.out.mono HZ.out.2.2.1.size)) HAP.out.2.1 HAP.out.2.2 rfl, (HZ.out.2.2.2.below HBX.out).of (fun b8 cs8 hr8 => hr8.pushed HLX.out.1 (by decide) (fun e => by obtain ⟨cs', hr'⟩ := HLX.out.2.1.row e; exact absurd (hr8.typed hr') (by decide)) HAP.out.2.1 rfl), fun e => hg2 (by simpa [Value.ownBlock] using e), fun hm1 => ⟨fun q hq => ?_, ?_, ?_, HST.out.2.2.2⟩, by simp, ?_⟩
        · rcases List.mem_append.1 hq with hq | hq
          · exact HST.out.1 q hq
          · have := List.mem_singleton.1 hq; subst this; exact hspl
        · simp; omega
        · have := HST.out.2.2.1; simp at this ⊢; omega
        · have := HBX.out.size; simp at this hsz3 ⊢; omega
    clear HZ q0 q1
    obtain ⟨g2, c2, hcut⟩ := hcut
    have HZ := hid hcut
    clear hcut
    generalize wc = y at HZ ⊢
    have q0 := HZ.out.1.c
    have q1 := HZ.out.2.1.three9
    refine hK5 _ _ ?_
    clear hK5
    apply wp_seq_k
    intro K6 hK6
    have HK6 := hid hK6
    clear hK6
    by_cases hlen : most < seen.length + 1
    · have HV : Hid (visit p (withinAll [x0]) (firstP s.data.toList lines [x0]) (f + 1) (c0, i, sp) (seen, out) = none) := by show _ = _; rw [HVB.out, if_neg HM.out, if_pos hlen]
      have hli : (4096 : Int) < (seen.length : Int) + 1 := by unfold most at hlen; omega
      clear hlen
      go_wp2_with fail
      go_ret
      exact ⟨_, _, by rw [HV.out]; rfl, HZ.out.2.2.1, fun st' hst' => by rw [HV.out] at hst'; cases hst'⟩
    have HV : Hid (visit p (withinAll [x0]) (firstP s.data.toList lines [x0]) (f + 1) (c0, i, sp) (seen, out) = (vfold p (withinAll [x0]) (firstP s.data.toList lines [x0]) f c i sp seen out).bind fun st => some (vend p c i sp st)) := by show _ = _; rw [HVB.out, if_neg HM.out, if_neg hlen]
    have hli : ¬ (4096 : Int) < (seen.length : Int) + 1 := by unfold most at hlen; omega
    have hmn : seen.length + 1 ≤ 4096 := by unfold most at hlen; omega
    clear hlen HVB
    go_wp2_with fail
    refine HK6.out _ _ ?_
    clear HK6 hli
    apply wp_seq_k
    intro K8 hK8
    go_cut [] from 8 (fun (y' : World) => ∃ (sv' ov' : Value) (st' : List Sit × List Parse), Hid (vfold p (withinAll [x0]) (firstP s.data.toList lines [x0]) f c i sp seen out = some st') ∧ VisAt N s lines (.int .i64 p.op) (.int .u64 p.set.a) (.int .u64 p.set.b) (.int .u64 p.set.c) (.int .u64 p.set.d) (.int .i64 p.lo) (.int .i64 p.hi) (.int .i64 p.gr) (.slice (some ⟨bb, o, none⟩) 1 cap) base X w (.slice va vn vc) (.slice ua un uc) seen.length c i (.slice sa sp.length sc) sp st' sv' ov' y')
    case first =>
      clear hK8
      apply wp_seq_k
      intro K9 hK9
      go_cut [64] from 8 (fun (v : Value) (y' : World) => v = .bool (decide (p.hi < 0 ∨ (c : Int) < p.hi)) ∧ Below y.heap.size y y')
      case first =>
        have hdd : (decide (p.hi < 0) = true ∧ Hid (decide (p.hi < 0 ∨ (c : Int) < p.hi) = true)) ∨ (decide (p.hi < 0) = false ∧ ((decide ((c : Int) < p.hi) = true ∧ Hid (decide (p.hi < 0 ∨ (c : Int) < p.hi) = true)) ∨ (decide ((c : Int) < p.hi) = false ∧ Hid (decide (p.hi < 0 ∨ (c : Int) < p.hi) = false)))) := by
          unfold Hid
          by_cases h1 : p.hi < 0 <;> by_cases h2 : (c : Int) < p.hi <;> simp [h1, h2]
        have HC := hid (fun (x : World) (hx : Grow y.drew x) => (⟨(HZ.out.later (grow_below hx)).1.c, (HZ.out.later (grow_below hx)).2.1.three9⟩ : _ ∧ _))
        clear q0 q1
        rcases hdd with ⟨d1, HD⟩ | ⟨d1, ⟨d2, HD⟩ | ⟨d2, HD⟩⟩
        all_goals
          refine wp_region_inv 16 (Grow) (by kernel_rfl) (by kernel_rfl) (Grow.refl) (fun _ _ _ => Grow.trans) ?_
          simp only [fill, dstOf, Act.put, List.take_succ_cons, List.take_zero, List.getElem?_toArray, List.getElem?_cons_zero, List.getElem?_cons_succ, Option.bind_some, List.setIfInBounds_toArray, List.set_cons_zero, List.set_cons_succ]
          refine Plan.det 1 rfl (Grow.refl) ?_
          apply Exists.intro
          refine ⟨fun vs x hR hF K hK => ?_, ?_⟩
          · clear hF
            go_simp
            exact hK _ _ (Grow.refl _) rfl
          refine Plan.det 2 rfl (Grow.refl) ?_
          apply Exists.intro
          refine ⟨fun vs x hR hF K hK => ?_, ?_⟩
          · have f0 := hF 0 _ _ rfl rfl; clear hF
            go_simp
            exact hK _ _ (Grow.refl _) rfl
          refine Plan.det 3 rfl (Grow.refl) ?_
          apply Exists.intro
          refine ⟨fun vs x hR hF K hK => ?_, ?_⟩
          · have f1 := hF 0 _ _ rfl rfl; clear hF
            go_simp
            exact hK _ _ (Grow.refl _) rfl
          refine Plan.det 4 rfl (Grow.refl) ?_
          apply Exists.intro
          refine ⟨fun vs x hR hF K hK => ?_, ?_⟩
          · have f2 := hF 0 _ _ rfl rfl; clear hF
            go_simp
            exact hK _ _ (Grow.refl _) rfl
          refine Plan.det 5 rfl (Grow.refl) ?_
          apply Exists.intro
          refine ⟨fun vs x hR hF K hK => ?_, ?_⟩
          · have f3 := hF 0 _ _ rfl rfl; have hc := HC.out x hR; clear hF
            go_simp
            exact hK _ _ (Grow.refl _) rfl
          refine Plan.det 6 rfl (Grow.refl) ?_
          apply Exists.intro
          refine ⟨fun vs x hR hF K hK => ?_, ?_⟩
          · have f4 := hF 0 _ _ rfl rfl; clear hF
            go_simp
            exact hK _ _ (Grow.refl _) rfl
          refine Plan.det 7 rfl (Grow.refl) ?_
          apply Exists.intro
          refine ⟨fun vs x hR hF K hK => ?_, ?_⟩
          · have f5 := hF 0 _ _ rfl rfl; clear hF
            go_simp
            exact hK _ _ (Grow.refl _) rfl
          refine Plan.det 8 rfl (Grow.refl) ?_
          apply Exists.intro
          refine ⟨fun vs x hR hF K hK => ?_, ?_⟩
          · have f6 := hF 0 _ _ rfl rfl; clear hF
            go_simp
            exact hK _ _ (Grow.refl _) rfl
          refine Plan.det 9 rfl (Grow.refl) ?_
          apply Exists.intro
          refine ⟨fun vs x hR hF K hK => ?_, ?_⟩
          · have f6 := hF 1 _ _ rfl rfl; have f7 := hF 0 _ _ rfl rfl; have hc := HC.out x hR; clear hF
            go_simp
            exact hK _ _ (Grow.refl _) rfl
          refine Plan.det 10 rfl (Grow.refl) ?_
          apply Exists.intro
          refine ⟨fun vs x hR hF K hK => ?_, ?_⟩
          · have f6 := hF 2 _ _ rfl rfl; clear hF
            go_simp
            exact hK _ _ (Grow.refl _) rfl
          refine Plan.det 11 rfl (Grow.refl) ?_
          apply Exists.intro
          refine ⟨fun vs x hR hF K hK => ?_, ?_⟩
          · have f6 := hF 3 _ _ rfl rfl; have f9 := hF 0 _ _ rfl rfl; clear hF
            go_simp
            exact hK _ _ (Grow.refl _) rfl
          refine Plan.det 12 rfl (Grow.refl) ?_
          apply Exists.intro
          refine ⟨fun vs x hR hF K hK => ?_, ?_⟩
          · have f6 := hF 4 _ _ rfl rfl; have f10 := hF 0 _ _ rfl rfl; clear hF
            go_simp
            exact hK _ _ (Grow.refl _) rfl
          refine Plan.det 13 rfl (Grow.refl) ?_
          apply Exists.intro
          refine ⟨fun vs x hR hF K hK => ?_, ?_⟩
          · have f6 := hF 5 _ _ rfl rfl; have f11 := hF 0 _ _ rfl rfl; clear hF
            go_simp
            exact hK _ _ (Grow.refl _) rfl
          refine Plan.det 14 rfl (Grow.refl) ?_
          apply Exists.intro
          refine ⟨fun vs x hR hF K hK => ?_, ?_⟩
          · have f6 := hF 6 _ _ rfl rfl; have f12 := hF 0 _ _ rfl rfl; have hc := HC.out x hR; clear hF
            go_simp
            exact hK _ _ (Grow.refl _) rfl
          refine Plan.det 15 rfl (Grow.refl) ?_
          apply Exists.intro
          refine ⟨fun vs x hR hF K hK => ?_, ?_⟩
          · have f6 := hF 7 _ _ rfl rfl; have f8 := hF 5 _ _ rfl rfl; have f13 := hF 0 _ _ rfl rfl; clear hF
            go_simp
            exact hK _ _ (Grow.refl _) rfl
          refine Plan.det 16 rfl (Grow.refl) ?_
          apply Exists.intro
          refine ⟨fun vs x hR hF K hK => ?_, ?_⟩
          · have f6 := hF 8 _ _ rfl rfl; have f14 := hF 0 _ _ rfl rfl; clear hF
            go_simp
            exact hK _ _ (Grow.refl _) rfl
          refine Plan.nil (fun vs x hR hF => ?_)
          have f0 := hF 15 _ _ rfl; have f1 := hF 14 _ _ rfl; have f2 := hF 13 _ _ rfl; have f3 := hF 12 _ _ rfl; have f4 := hF 11 _ _ rfl; have f5 := hF 10 _ _ rfl; have f6 := hF 9 _ _ rfl; have f7 := hF 8 _ _ rfl; have f8 := hF 7 _ _ rfl; have f9 := hF 6 _ _ rfl; have f10 := hF 5 _ _ rfl; have f11 := hF 4 _ _ rfl; have f12 := hF 3 _ _ rfl; have f13 := hF 2 _ _ rfl; have f14 := hF 1 _ _ rfl; have f15 := hF 0 _ _ rfl
          clear hF
          simp only [f0, f1, f2, f3, f4, f5, f6, f7, f8, f9, f10, f11, f12, f13, f14, f15]
          clear f0 f1 f2 f3 f4 f5 f6 f7 f8 f9 f10 f11 f12 f13 f14 f15
          simp only [List.drop_succ_cons, List.drop_zero]
          go_wp2_with fail
          go_meet
          rw [HD.out]
          exact ⟨rfl, grow_below hR⟩
      obtain ⟨rfl, hb9⟩ := hcut
      have HZ9 := hid (HZ.out.later hb9)
      clear HZ hb9 q0 q1
      generalize wc = z at HZ9 ⊢
      refine hK9 _ _ ?_
      clear hK9
      by_cases hgo : p.hi < 0 ∨ (c : Int) < p.hi
      case neg =>
        rw [decide_eq_false hgo]
        have HVF : Hid (vfold p (withinAll [x0]) (firstP s.data.toList lines [x0]) f c i sp seen out = some (seen ++ [(c, i, sp)], out)) := by show _ = _; unfold vfold; rw [if_neg hgo]
        clear hgo
        go_wp2_with fail
        go_meet
        exact ⟨_, _, _, HVF.out, HZ9.out⟩
      rw [decide_eq_true hgo]
      have HVF : Hid (vfold p (withinAll [x0]) (firstP s.data.toList lines [x0]) f c i sp seen out = (firstP s.data.toList lines [x0] i (unset sp (withinAll [x0]))).bind fun l => l.foldlM (vstep p (withinAll [x0]) (firstP s.data.toList lines [x0]) f c i) (seen ++ [(c, i, sp)], out)) := by show _ = _; unfold vfold; rw [if_pos hgo]
      have hc9 : c ≤ 1000 := by
        have hcl9 := HCL.out
        split at hcl9 <;> omega
      clear hgo
      have hszz : x0.size ≤ 20 := by have h9 := hsz; rw [Re.size_mk] at h9; have h1 : Re.sizes [x0] = x0.size + 0 := rfl; omega
      have hok0 : x0.ok N := by have h9 := HOK.out; rw [Re.ok, Re.oks] at h9; exact h9.2.2.2.2.1
      have hall2 := HIN.out
      rw [Re.In] at hall2
      obtain ⟨ad, cap2, he, -, -, -, -, hall⟩ := hall2
      have hbz : Below wb.heap.size wb z := HBW.out.trans ((HW.out.fr_below HZ9.out.2.2.1).mono HWB.out)
      have hk := hall.kid hbz 0 (by simp)
      obtain ⟨bb', o', p', ad', n', cap', e', HXC, HXI, hbb⟩ := hk
      simp only [Pay.cells, List.cons.injEq, Value.slice.injEq, true_and, and_true, List.length_cons, List.length_nil] at he
      obtain ⟨he1, he2⟩ := he
      rw [← he1] at e'
      injection e' with e'
      injection e' with e1 e2
      subst e1
      subst e2
      clear he1 he2 hall
      have HBZ := hid hbz
      have hwo : withinOf (.mk p [x0]) = withinAll [x0] := by rw [withinOf, if_neg (by rw [HOP.out]; decide)]; rfl
      have HCR : Hid (∀ (x : World), Grow z.drew x → Calls Try.prog 98 #[.agg #[.int .i64 p.op, .int .u64 p.set.a, .int .u64 p.set.b, .int .u64 p.set.c, .int .u64 p.set.d, .int .i64 p.lo, .int .i64 p.hi, .int .i64 p.gr, .slice (some ⟨bb, o, none⟩) 1 cap], .slice sa sp.length sc] x fun e w' => ∃ a c, e = .returned (.slice a sp.length c) ∧ Below x.heap.size x w' ∧ SpQ w' (.slice a sp.length c) (unset sp (withinAll [x0]))) := by
        intro x hx
        rw [← hwo]
        exact rcleared_any wb N (.mk p [x0]) x [.int .i64 p.op, .int .u64 p.set.a, .int .u64 p.set.b, .int .u64 p.set.c, .int .u64 p.set.d, .int .i64 p.lo, .int .i64 p.hi, .int .i64 p.gr, .slice (some ⟨bb, o, none⟩) 1 cap] (.slice sa sp.length sc) sp HIN.out HOK.out (HBZ.out.trans ((grow_below hx).mono HBZ.out.size)) (HZ9.out.2.2.2.1.below (grow_below hx)) hspl
      have hsl : s.data.toList.length = s.size := by rw [Array.length_toList]; rfl
      obtain ⟨r, hr⟩ : ∃ r, r = firstP s.data.toList lines [x0] i (unset sp (withinAll [x0])) := ⟨_, rfl⟩
      have hrp : r = parses s.data.toList lines x0 i (unset sp (withinAll [x0])) := by rw [hr, firstP]
      have hsu : SpOk N s.size (unset sp (withinAll [x0])) := SpOk.unset _ HSO.out
      have HCH : Hid (∀ (x : World) (ua : Option Addr) (uc : Nat), Below wb.heap.size wb x → SpQ x (.slice ua sp.length uc) (unset sp (withinAll [x0])) → Calls Try.prog 31 #[.agg #[.string s, .bool lines], .agg #[.int .i64 p'.op, .int .u64 p'.set.a, .int .u64 p'.set.b, .int .u64 p'.set.c, .int .u64 p'.set.d, .int .i64 p'.lo, .int .i64 p'.hi, .int .i64 p'.gr, .slice ad' n' cap'], .int .i64 i, .slice ua sp.length uc] x (RetP x r)) := by
        intro x ua uc hx hu
        have h9 := HCHILD.out x [.int .i64 p'.op, .int .u64 p'.set.a, .int .u64 p'.set.b, .int .u64 p'.set.c, .int .u64 p'.set.d, .int .i64 p'.lo, .int .i64 p'.hi, .int .i64 p'.gr, .slice ad' n' cap'] ua uc (unset sp (withinAll [x0])) i HXI.out hok0 hszz hx (by rw [unset_len]; exact hu) hsu hi
        rw [unset_len, ← hrp] at h9
        exact h9
      have HLEN : Hid (∀ l, r = some l → l.length ≤ 4096) := fun l h => parses_len hok0 (by rw [hsl]; exact hi) (by rw [hsl]; exact hsu) (hrp.symm.trans h)
      have hpok := fun l (h : r = some l) => parses_ok s.data.toList lines N x0 i (unset sp (withinAll [x0])) l hok0 (by rw [hsl]; exact hi) (by rw [hsl]; exact hsu) (hrp.symm.trans h)
      rw [hsl] at hpok
      have HPOK := hid hpok
      have HX1 := hid (fun (x : World) (hx : Grow z.drew x) => HXC.out.below (grow_below hx))
      have HC := hid (fun (x : World) (hx : Grow z.drew x) => (⟨(HZ9.out.later (grow_below hx)).1.c, (HZ9.out.later (grow_below hx)).2.1.three9⟩ : _ ∧ _))
      rw [← hr] at HVF
      clear hszz hok0 hbz hbb hwo hsl hr hrp hsu hpok
      have q0 := HZ9.out.1.c
      have q1 := HZ9.out.2.1.three9
      go_upto_region 9 with fail
      refine wp_region_two 20 26 rfl (Grow) (by kernel_rfl) (by kernel_rfl) (Grow.refl) (fun _ _ _ => Grow.trans) ?_
      simp only [fill, dstOf, Act.put, List.take_succ_cons, List.take_zero, List.getElem?_toArray, List.getElem?_cons_zero, List.getElem?_cons_succ, Option.bind_some, List.setIfInBounds_toArray, List.set_cons_zero, List.set_cons_succ]
      refine Plan.det 1 rfl (Grow.refl) ?_
      apply Exists.intro
      refine ⟨fun vs x hR hF K hK => ?_, ?_⟩
      · clear hF
        go_simp
        exact hK _ _ (Grow.refl _) rfl
      refine Plan.det 2 rfl (Grow.refl) ?_
      apply Exists.intro
      refine ⟨fun vs x hR hF K hK => ?_, ?_⟩
      · have f0 := hF 0 _ _ rfl rfl; clear hF
        go_simp
        exact hK _ _ (Grow.refl _) rfl
      refine Plan.det 3 rfl (Grow.refl) ?_
      apply Exists.intro
      refine ⟨fun vs x hR hF K hK => ?_, ?_⟩
      · have f1 := hF 0 _ _ rfl rfl; clear hF
        go_simp
        exact hK _ _ (Grow.refl _) rfl
      refine Plan.det 4 rfl (Grow.refl) ?_
      apply Exists.intro
      refine ⟨fun vs x hR hF K hK => ?_, ?_⟩
      · have f2 := hF 0 _ _ rfl rfl; have hc := HC.out x hR; clear hF
        go_simp
        exact hK _ _ (Grow.refl _) rfl
      refine Plan.det 5 rfl (Grow.refl) ?_
      apply Exists.intro
      refine ⟨fun vs x hR hF K hK => ?_, ?_⟩
      · clear hF
        go_simp
        exact hK _ _ (Grow.refl _) rfl
      refine Plan.det 6 rfl (Grow.refl) ?_
      apply Exists.intro
      refine ⟨fun vs x hR hF K hK => ?_, ?_⟩
      · have f4 := hF 0 _ _ rfl rfl; clear hF
        go_simp
        exact hK _ _ (Grow.refl _) rfl
      refine Plan.det 7 rfl (Grow.refl) ?_
      apply Exists.intro
      refine ⟨fun vs x hR hF K hK => ?_, ?_⟩
      · have f5 := hF 0 _ _ rfl rfl; clear hF
        go_simp
        exact hK _ _ (Grow.refl _) rfl
      refine Plan.det 8 rfl (Grow.refl) ?_
      apply Exists.intro
      refine ⟨fun vs x hR hF K hK => ?_, ?_⟩
      · have f6 := hF 0 _ _ rfl rfl; clear hF
        go_simp
        exact hK _ _ (Grow.refl _) rfl
      refine Plan.det 9 rfl (Grow.refl) ?_
      apply Exists.intro
      refine ⟨fun vs x hR hF K hK => ?_, ?_⟩
      · have f7 := hF 0 _ _ rfl rfl; have hc := HC.out x hR; clear hF
        go_simp
        exact hK _ _ (Grow.refl _) rfl
      refine Plan.det 10 rfl (Grow.refl) ?_
      apply Exists.intro
      refine ⟨fun vs x hR hF K hK => ?_, ?_⟩
      · have f8 := hF 0 _ _ rfl rfl; clear hF
        go_simp
        exact hK _ _ (Grow.refl _) rfl
      refine Plan.det 11 rfl (Grow.refl) ?_
      apply Exists.intro
      refine ⟨fun vs x hR hF K hK => ?_, ?_⟩
      · have f9 := hF 0 _ _ rfl rfl; have hc := HC.out x hR; clear hF
        rw [if_pos (show Region.wanted _ _ = true from rfl)]
        refine gives_load_agg 28 _ rfl bb o f9 _ _ (HX1.out _ hR) Try.underlying28 rfl (size_re9 _ _ _ _ _ _ _ _ _) ?_
        exact hK _ _ (Grow.refl _) rfl
      refine Plan.det 12 rfl (Grow.refl) ?_
      apply Exists.intro
      refine ⟨fun vs x hR hF K hK => ?_, ?_⟩
      · clear hF
        go_simp
        exact hK _ _ (Grow.refl _) rfl
      refine Plan.det 13 rfl (Grow.refl) ?_
      apply Exists.intro
      refine ⟨fun vs x hR hF K hK => ?_, ?_⟩
      · have f11 := hF 0 _ _ rfl rfl; have hc := HC.out x hR; clear hF
        go_simp
        exact hK _ _ (Grow.refl _) rfl
      refine Plan.det 14 rfl (Grow.refl) ?_
      apply Exists.intro
      refine ⟨fun vs x hR hF K hK => ?_, ?_⟩
      · clear hF
        go_simp
        exact hK _ _ (Grow.refl _) rfl
      refine Plan.det 15 rfl (Grow.refl) ?_
      apply Exists.intro
      refine ⟨fun vs x hR hF K hK => ?_, ?_⟩
      · have f13 := hF 0 _ _ rfl rfl; clear hF
        go_simp
        exact hK _ _ (Grow.refl _) rfl
      refine Plan.det 16 rfl (Grow.refl) ?_
      apply Exists.intro
      refine ⟨fun vs x hR hF K hK => ?_, ?_⟩
      · have f14 := hF 0 _ _ rfl rfl; clear hF
        go_simp
        exact hK _ _ (Grow.refl _) rfl
      refine Plan.det 17 rfl (Grow.refl) ?_
      apply Exists.intro
      refine ⟨fun vs x hR hF K hK => ?_, ?_⟩
      · have f15 := hF 0 _ _ rfl rfl; have hc := HC.out x hR; clear hF
        go_simp
        exact hK _ _ (Grow.refl _) rfl
      refine Plan.det 18 rfl (Grow.refl) ?_
      apply Exists.intro
      refine ⟨fun vs x hR hF K hK => ?_, ?_⟩
      · clear hF
        go_simp
        exact hK _ _ (Grow.refl _) rfl
      refine Plan.det 19 rfl (Grow.refl) ?_
      apply Exists.intro
      refine ⟨fun vs x hR hF K hK => ?_, ?_⟩
      · have f17 := hF 0 _ _ rfl rfl; have hc := HC.out x hR; clear hF
        go_simp
        exact hK _ _ (Grow.refl _) rfl
      refine Plan.rel 20 rfl (Grow.refl) (fun v y => ∃ (a2 : Option Addr) (c2 : Nat), v = .slice a2 sp.length c2 ∧ SpQ y (.slice a2 sp.length c2) (unset sp (withinAll [x0]))) (fun v y z hR ⟨a1, c1, h1, h2⟩ => ⟨a1, c1, h1, h2.below hR⟩) (fun vs x hR hF K hK => ?_) ?_
      · have f16 := hF 2 _ _ rfl rfl; have f18 := hF 0 _ _ rfl rfl
        go_simp
        refine (HCR.out x hR).mono ?_
        rintro e x1 ⟨a2, c2, rfl, hbe, h1⟩
        exact ⟨_, rfl, hK _ _ hbe ⟨a2, c2, rfl, h1⟩⟩
      refine PlanEnd (by simp) (fun vs x hR hF => ?_)
      have f0 := hF 19 _ _ rfl; have f1 := hF 18 _ _ rfl; have f2 := hF 17 _ _ rfl; have f3 := hF 16 _ _ rfl; have f4 := hF 15 _ _ rfl; have f5 := hF 14 _ _ rfl; have f6 := hF 13 _ _ rfl; have f7 := hF 12 _ _ rfl; have f8 := hF 11 _ _ rfl; have f9 := hF 10 _ _ rfl; have f10 := hF 9 _ _ rfl; have f11 := hF 8 _ _ rfl; have f12 := hF 7 _ _ rfl; have f13 := hF 6 _ _ rfl; have f14 := hF 5 _ _ rfl; have f15 := hF 4 _ _ rfl; have f16 := hF 3 _ _ rfl; have f17 := hF 2 _ _ rfl; have f18 := hF 1 _ _ rfl; have f19 := hF 0 _ _ rfl
      clear hF
      simp only [f0, f1, f2, f3, f4, f5, f6, f7, f8, f9, f10, f11, f12, f13, f14, f15, f16, f17, f18]
      clear f0 f1 f2 f3 f4 f5 f6 f7 f8 f9 f10 f11 f12 f13 f14 f15 f16 f17 f18
      intro oo hoo KQ hK
      obtain rfl := Option.some.inj hoo
      clear hoo
      obtain ⟨a2, c3, ev2, hs2⟩ := f19
      simp only [ev2]
      clear ev2
      have HBX := hid (grow_below hR)
      have HS2 := hid hs2
      clear HX1 hR hs2
      go_simp
      refine (HCH.out _ a2 c3 (HBZ.out.trans (HBX.out.mono HBZ.out.size)) HS2.out).mono ?_
      rintro e w' ⟨a9, l9, c9, rfl, hb9, h9, h9n⟩
      have HV9 := hid (HZ9.out.later (HBX.out.trans (hb9.mono HBX.out.size)))
      have HR9 := hid (And.intro h9 h9n)
      have HB9 := hid (HBX.out.trans (hb9.mono HBX.out.size))
      have hz9' := HBX.out.size
      clear hb9 h9 h9n
      refine ⟨_, rfl, hK _ _ ?_⟩
      clear hK
      unfold AfterC
      simp only [fill, dstOf, Act.put, List.getElem?_toArray, List.getElem?_cons_zero, List.getElem?_cons_succ, Option.bind_some, List.setIfInBounds_toArray, List.set_cons_zero, List.set_cons_succ, List.drop_succ_cons, List.drop_zero]
      refine Plan.det 22 rfl (fun _ => rfl) ?_
      apply Exists.intro
      refine ⟨fun vs x hR hF K hK => ?_, ?_⟩
      · have f20 := hF 0 _ _ rfl rfl; clear hF
        go_simp
        exact hK _ _ rfl rfl
      refine Plan.det 23 rfl (fun _ => rfl) ?_
      apply Exists.intro
      refine ⟨fun vs x hR hF K hK => ?_, ?_⟩
      · have f21 := hF 0 _ _ rfl rfl; clear hF
        go_simp
        exact hK _ _ rfl rfl
      refine Plan.det 24 rfl (fun _ => rfl) ?_
      apply Exists.intro
      refine ⟨fun vs x hR hF K hK => ?_, ?_⟩
      · have f21 := hF 1 _ _ rfl rfl; clear hF
        go_simp
        exact hK _ _ rfl rfl
      refine Plan.det 25 rfl (fun _ => rfl) ?_
      apply Exists.intro
      refine ⟨fun vs x hR hF K hK => ?_, ?_⟩
      · have f20 := hF 3 _ _ rfl rfl; have f21 := hF 2 _ _ rfl rfl; have f22 := hF 1 _ _ rfl rfl; clear hF
        go_simp
        exact hK _ _ rfl rfl
      refine Plan.det 26 rfl (fun _ => rfl) ?_
      apply Exists.intro
      refine ⟨fun vs x hR hF K hK => ?_, ?_⟩
      · have f20 := hF 4 _ _ rfl rfl; have f21 := hF 3 _ _ rfl rfl; have f22 := hF 2 _ _ rfl rfl; have f23 := hF 1 _ _ rfl rfl; have f24 := hF 0 _ _ rfl rfl; clear hF
        go_simp
        exact hK _ _ rfl rfl
      refine Plan.nil (fun vs x hR2 hF => ?_)
      have f20 := hF 5 _ _ rfl; have f21 := hF 4 _ _ rfl; have f22 := hF 3 _ _ rfl; have f23 := hF 2 _ _ rfl; have f24 := hF 1 _ _ rfl; have f25 := hF 0 _ _ rfl
      clear hF
      simp only [f20, f21, f22, f23, f24, f25]
      clear f20 f21 f22 f23 f24 f25
      subst hR2
      simp only [List.drop_succ_cons, List.drop_nil]
      clear HC HCR HCH q0 q1
      cases r with
      | none =>
        obtain ⟨rfl, rfl, rfl⟩ := HR9.out.2 rfl
        simp only [Option.isSome_none]
        have HV0 : Hid (visit p (withinAll [x0]) (firstP s.data.toList lines [x0]) (f + 1) (c0, i, sp) (seen, out) = none) := by show _ = _; rw [HV.out, HVF.out]; rfl
        go_wp2_with fail
        go_ret
        exact ⟨_, _, by rw [HV0.out]; rfl, HV9.out.2.2.1, fun st' hst' => by rw [HV0.out] at hst'; cases hst'⟩
      | some l =>
      obtain ⟨rfl, hps⟩ := HR9.out.1 l rfl
      have hl4 := HLEN.out l rfl
      have HPS : Hid (PsQ (fun b => (Value.slice ua un uc).ownBlock ≠ some b) w' (.slice a9 l.length c9) l) := hps.mono fun b _ hb e => by have := (HZ9.out.1.2.2.1.lt _ e).2; omega
      obtain ⟨n, hnn⟩ : ∃ n, n = l.length := ⟨_, rfl⟩
      have HNN := hid hnn
      rw [← hnn] at HPS hl4 ⊢
      have HVF2 : Hid (vfold p (withinAll [x0]) (firstP s.data.toList lines [x0]) f c i sp seen out = l.foldlM (vstep p (withinAll [x0]) (firstP s.data.toList lines [x0]) f c i) (seen ++ [(c, i, sp)], out)) := HVF.out
      clear hps hnn HR9 HLEN HVF
      simp only [Option.isSome_some]
      go_wp2_with fail
      go_loopw [7] (fun v7 wr => ∃ (k : Nat) (sv' ov' : Value) (st' : List Sit × List Parse), v7 = .int .i64 k ∧ k ≤ n ∧ Hid ((l.take k).foldlM (vstep p (withinAll [x0]) (firstP s.data.toList lines [x0]) f c i) (seen ++ [(c, i, sp)], out) = some st' ∧ VisAt N s lines (.int .i64 p.op) (.int .u64 p.set.a) (.int .u64 p.set.b) (.int .u64 p.set.c) (.int .u64 p.set.d) (.int .i64 p.lo) (.int .i64 p.hi) (.int .i64 p.gr) (.slice (some ⟨bb, o, none⟩) 1 cap) base X w (.slice va vn vc) (.slice ua un uc) seen.length c i (.slice sa sp.length sc) sp st' sv' ov' wr ∧ PsQ (fun b => ov'.ownBlock ≠ some b) wr (.slice a9 n c9) l)) (fun v7 _ => n - (intOf v7).toNat)
      case atStart => exact ⟨0, _, _, _, rfl, Nat.zero_le _, by rw [List.take_zero]; rfl, HV9.out, HPS.out⟩
      case round =>
        obtain ⟨k, sv1, ov1, ⟨se1, ou1⟩, rfl, hk, HX⟩ := hrel
        have q0 := HX.out.2.1.1.c
        have q1 := HX.out.2.1.2.1.three9
        by_cases hlt : k < n
        · have hltI : (k : Int) < (n : Int) := by omega
          obtain ⟨b, cc, u1, u2, va2, vc2, hq, ev, hb, hbp, -, p0, p1, hsq⟩ := HX.out.2.2.get (k := k) (by have := HNN.out; omega)
          injection ev with e1 e2 e3
          subst e1; subst e3
          clear e2
          have hmem : (u1, u2) ∈ l := List.mem_of_getElem? hq
          have HPK := hid (HPOK.out l rfl (u1, u2) hmem)
          have hu1 : u1 ≤ s.size := HPK.out.2.1
          have HQ := hid hq
          have HSQ := hid hsq
          have hss : (u1 = i ∧ decide (p.lo ≤ (c : Int)) = true ∧ Hid (vstep p (withinAll [x0]) (firstP s.data.toList lines [x0]) f c i (se1, ou1) (u1, u2) = some (se1, ou1))) ∨ (((¬ u1 = i ∧ ¬ (u1 : Int) = (i : Int)) ∨ (u1 = i ∧ decide (p.lo ≤ (c : Int)) = false)) ∧ Hid (vstep p (withinAll [x0]) (firstP s.data.toList lines [x0]) f c i (se1, ou1) (u1, u2) = visit p (withinAll [x0]) (firstP s.data.toList lines [x0]) f (c + 1, u1, u2) (se1, ou1))) := by
            unfold Hid vstep
            by_cases h1 : u1 = i
            · by_cases h2 : p.lo ≤ (c : Int)
              · exact .inl ⟨h1, by simp [h2], by rw [if_pos ⟨h1, h2⟩]⟩
              · exact .inr ⟨.inr ⟨h1, by simp [h2]⟩, by rw [if_neg (fun h => h2 h.2)]⟩
            · exact .inr ⟨.inl ⟨h1, by omega⟩, by rw [if_neg (fun h => h1 h.1)]⟩
          have HC0 := hid (⟨p0, p1, hb⟩ : _ ∧ _ ∧ _)
          have HC := hid (fun (x : World) (hx : Grow wr.drew x) => (⟨((grow_below hx).cell (p := ⟨b, k * 2, none⟩) HC0.out.2.2).trans HC0.out.1, ((grow_below hx).cell (p := ⟨b, k * 2 + 1, none⟩) HC0.out.2.2).trans HC0.out.2.1, (HX.out.2.1.later (grow_below hx)).1.c, (HX.out.2.1.later (grow_below hx)).2.1.three9⟩ : _ ∧ _ ∧ _ ∧ _))
          clear hsq hmem hq hbp p0 p1
          rcases hss with ⟨rfl, d2, HSS⟩ | ⟨⟨d1, d1'⟩ | ⟨rfl, d2⟩, HSS⟩
          · go_wp2_with fail
            refine wp_region_inv 18 (Grow) (by kernel_rfl) (by kernel_rfl) (Grow.refl) (fun _ _ _ => Grow.trans) ?_
            simp only [fill, dstOf, Act.put, List.take_succ_cons, List.take_zero, List.getElem?_toArray, List.getElem?_cons_zero, List.getElem?_cons_succ, Option.bind_some, List.setIfInBounds_toArray, List.set_cons_zero, List.set_cons_succ]
            refine Plan.det 1 rfl (Grow.refl) ?_
            apply Exists.intro
            refine ⟨fun vs x hR hF K hK => ?_, ?_⟩
            · clear hF
              go_simp
              exact hK _ _ (Grow.refl _) rfl
            refine Plan.det 2 rfl (Grow.refl) ?_
            apply Exists.intro
            refine ⟨fun vs x hR hF K hK => ?_, ?_⟩
            · clear hF
              go_simp
              exact hK _ _ (Grow.refl _) rfl
            refine Plan.det 3 rfl (Grow.refl) ?_
            apply Exists.intro
            refine ⟨fun vs x hR hF K hK => ?_, ?_⟩
            · have f0 := hF 1 _ _ rfl rfl; have f1 := hF 0 _ _ rfl rfl; clear hF
              go_simp
              exact hK _ _ (Grow.refl _) rfl
            refine Plan.det 4 rfl (Grow.refl) ?_
            apply Exists.intro
            refine ⟨fun vs x hR hF K hK => ?_, ?_⟩
            · have f2 := hF 0 _ _ rfl rfl; clear hF
              go_simp
              exact hK _ _ (Grow.refl _) rfl
            refine Plan.det 5 rfl (Grow.refl) ?_
            apply Exists.intro
            refine ⟨fun vs x hR hF K hK => ?_, ?_⟩
            · have f3 := hF 0 _ _ rfl rfl; have hc := HC.out x hR; clear hF
              go_simp
              exact hK _ _ (Grow.refl _) rfl
            refine Plan.det 6 rfl (Grow.refl) ?_
            apply Exists.intro
            refine ⟨fun vs x hR hF K hK => ?_, ?_⟩
            · clear hF
              go_simp
              exact hK _ _ (Grow.refl _) rfl
            refine Plan.det 7 rfl (Grow.refl) ?_
            apply Exists.intro
            refine ⟨fun vs x hR hF K hK => ?_, ?_⟩
            · have f5 := hF 0 _ _ rfl rfl; have hc := HC.out x hR; clear hF
              go_simp
              exact hK _ _ (Grow.refl _) rfl
            refine Plan.det 8 rfl (Grow.refl) ?_
            apply Exists.intro
            refine ⟨fun vs x hR hF K hK => ?_, ?_⟩
            · have f4 := hF 2 _ _ rfl rfl; have f6 := hF 0 _ _ rfl rfl; clear hF
              go_simp
              exact hK _ _ (Grow.refl _) rfl
            refine Plan.det 9 rfl (Grow.refl) ?_
            apply Exists.intro
            refine ⟨fun vs x hR hF K hK => ?_, ?_⟩
            · have f7 := hF 0 _ _ rfl rfl; clear hF
              go_simp
              exact hK _ _ (Grow.refl _) rfl
            refine Plan.det 10 rfl (Grow.refl) ?_
            apply Exists.intro
            refine ⟨fun vs x hR hF K hK => ?_, ?_⟩
            · have f8 := hF 0 _ _ rfl rfl; clear hF
              go_simp
              exact hK _ _ (Grow.refl _) rfl
            refine Plan.det 11 rfl (Grow.refl) ?_
            apply Exists.intro
            refine ⟨fun vs x hR hF K hK => ?_, ?_⟩
            · have f8 := hF 1 _ _ rfl rfl; have f9 := hF 0 _ _ rfl rfl; have hc := HC.out x hR; clear hF
              go_simp
              exact hK _ _ (Grow.refl _) rfl
            refine Plan.det 12 rfl (Grow.refl) ?_
            apply Exists.intro
            refine ⟨fun vs x hR hF K hK => ?_, ?_⟩
            · have f8 := hF 2 _ _ rfl rfl; clear hF
              go_simp
              exact hK _ _ (Grow.refl _) rfl
            refine Plan.det 13 rfl (Grow.refl) ?_
            apply Exists.intro
            refine ⟨fun vs x hR hF K hK => ?_, ?_⟩
            · have f8 := hF 3 _ _ rfl rfl; have f11 := hF 0 _ _ rfl rfl; clear hF
              go_simp
              exact hK _ _ (Grow.refl _) rfl
            refine Plan.det 14 rfl (Grow.refl) ?_
            apply Exists.intro
            refine ⟨fun vs x hR hF K hK => ?_, ?_⟩
            · have f8 := hF 4 _ _ rfl rfl; have f12 := hF 0 _ _ rfl rfl; clear hF
              go_simp
              exact hK _ _ (Grow.refl _) rfl
            refine Plan.det 15 rfl (Grow.refl) ?_
            apply Exists.intro
            refine ⟨fun vs x hR hF K hK => ?_, ?_⟩
            · have f8 := hF 5 _ _ rfl rfl; have f13 := hF 0 _ _ rfl rfl; clear hF
              go_simp
              exact hK _ _ (Grow.refl _) rfl
            refine Plan.det 16 rfl (Grow.refl) ?_
            apply Exists.intro
            refine ⟨fun vs x hR hF K hK => ?_, ?_⟩
            · have f8 := hF 6 _ _ rfl rfl; have f14 := hF 0 _ _ rfl rfl; have hc := HC.out x hR; clear hF
              go_simp
              exact hK _ _ (Grow.refl _) rfl
            refine Plan.det 17 rfl (Grow.refl) ?_
            apply Exists.intro
            refine ⟨fun vs x hR hF K hK => ?_, ?_⟩
            · have f8 := hF 7 _ _ rfl rfl; have f10 := hF 5 _ _ rfl rfl; have f15 := hF 0 _ _ rfl rfl; clear hF
              go_simp
              exact hK _ _ (Grow.refl _) rfl
            refine Plan.det 18 rfl (Grow.refl) ?_
            apply Exists.intro
            refine ⟨fun vs x hR hF K hK => ?_, ?_⟩
            · have f8 := hF 8 _ _ rfl rfl; have f16 := hF 0 _ _ rfl rfl; clear hF
              go_simp
              exact hK _ _ (Grow.refl _) rfl
            refine Plan.nil (fun vs x hR hF => ?_)
            have f0 := hF 17 _ _ rfl; have f1 := hF 16 _ _ rfl; have f2 := hF 15 _ _ rfl; have f3 := hF 14 _ _ rfl; have f4 := hF 13 _ _ rfl; have f5 := hF 12 _ _ rfl; have f6 := hF 11 _ _ rfl; have f7 := hF 10 _ _ rfl; have f8 := hF 9 _ _ rfl; have f9 := hF 8 _ _ rfl; have f10 := hF 7 _ _ rfl; have f11 := hF 6 _ _ rfl; have f12 := hF 5 _ _ rfl; have f13 := hF 4 _ _ rfl; have f14 := hF 3 _ _ rfl; have f15 := hF 2 _ _ rfl; have f16 := hF 1 _ _ rfl; have f17 := hF 0 _ _ rfl
            clear hF
            simp only [f0, f1, f2, f3, f4, f5, f6, f7, f8, f9, f10, f11, f12, f13, f14, f15, f16, f17]
            clear f0 f1 f2 f3 f4 f5 f6 f7 f8 f9 f10 f11 f12 f13 f14 f15 f16 f17
            simp only [List.drop_succ_cons, List.drop_zero]
            have HX2 := hid (And.intro HX.out.1 (And.intro (HX.out.2.1.later (grow_below hR)) (HX.out.2.2.below (grow_below hR))))
            clear HX HC q0 q1 hR HC0
            go_wp2_with fail
            refine ⟨⟨k + 1, sv1, ov1, (se1, ou1), by go_num, by omega, ⟨by rw [foldlM_step HQ.out HX2.out.1]; exact HSS.out, HX2.out.2⟩⟩, ?_⟩
            simp [intOf] <;> omega
          all_goals
            go_wp2_with fail
            refine wp_region_inv 18 (Grow) (by kernel_rfl) (by kernel_rfl) (Grow.refl) (fun _ _ _ => Grow.trans) ?_
            simp only [fill, dstOf, Act.put, List.take_succ_cons, List.take_zero, List.getElem?_toArray, List.getElem?_cons_zero, List.getElem?_cons_succ, Option.bind_some, List.setIfInBounds_toArray, List.set_cons_zero, List.set_cons_succ]
            refine Plan.det 1 rfl (Grow.refl) ?_
            apply Exists.intro
            refine ⟨fun vs x hR hF K hK => ?_, ?_⟩
            · clear hF
              go_simp
              exact hK _ _ (Grow.refl _) rfl
            refine Plan.det 2 rfl (Grow.refl) ?_
            apply Exists.intro
            refine ⟨fun vs x hR hF K hK => ?_, ?_⟩
            · clear hF
              go_simp
              exact hK _ _ (Grow.refl _) rfl
            refine Plan.det 3 rfl (Grow.refl) ?_
            apply Exists.intro
            refine ⟨fun vs x hR hF K hK => ?_, ?_⟩
            · have f0 := hF 1 _ _ rfl rfl; have f1 := hF 0 _ _ rfl rfl; clear hF
              go_simp
              exact hK _ _ (Grow.refl _) rfl
            refine Plan.det 4 rfl (Grow.refl) ?_
            apply Exists.intro
            refine ⟨fun vs x hR hF K hK => ?_, ?_⟩
            · have f2 := hF 0 _ _ rfl rfl; clear hF
              go_simp
              exact hK _ _ (Grow.refl _) rfl
            refine Plan.det 5 rfl (Grow.refl) ?_
            apply Exists.intro
            refine ⟨fun vs x hR hF K hK => ?_, ?_⟩
            · have f3 := hF 0 _ _ rfl rfl; have hc := HC.out x hR; clear hF
              go_simp
              exact hK _ _ (Grow.refl _) rfl
            refine Plan.det 6 rfl (Grow.refl) ?_
            apply Exists.intro
            refine ⟨fun vs x hR hF K hK => ?_, ?_⟩
            · clear hF
              go_simp
              exact hK _ _ (Grow.refl _) rfl
            refine Plan.det 7 rfl (Grow.refl) ?_
            apply Exists.intro
            refine ⟨fun vs x hR hF K hK => ?_, ?_⟩
            · have f5 := hF 0 _ _ rfl rfl; have hc := HC.out x hR; clear hF
              go_simp
              exact hK _ _ (Grow.refl _) rfl
            refine Plan.det 8 rfl (Grow.refl) ?_
            apply Exists.intro
            refine ⟨fun vs x hR hF K hK => ?_, ?_⟩
            · have f4 := hF 2 _ _ rfl rfl; have f6 := hF 0 _ _ rfl rfl; clear hF
              go_simp
              exact hK _ _ (Grow.refl _) rfl
            refine Plan.det 9 rfl (Grow.refl) ?_
            apply Exists.intro
            refine ⟨fun vs x hR hF K hK => ?_, ?_⟩
            · have f7 := hF 0 _ _ rfl rfl; clear hF
              go_simp
              exact hK _ _ (Grow.refl _) rfl
            refine Plan.det 10 rfl (Grow.refl) ?_
            apply Exists.intro
            refine ⟨fun vs x hR hF K hK => ?_, ?_⟩
            · have f8 := hF 0 _ _ rfl rfl; clear hF
              go_simp
              exact hK _ _ (Grow.refl _) rfl
            refine Plan.det 11 rfl (Grow.refl) ?_
            apply Exists.intro
            refine ⟨fun vs x hR hF K hK => ?_, ?_⟩
            · have f8 := hF 1 _ _ rfl rfl; have f9 := hF 0 _ _ rfl rfl; have hc := HC.out x hR; clear hF
              go_simp
              exact hK _ _ (Grow.refl _) rfl
            refine Plan.det 12 rfl (Grow.refl) ?_
            apply Exists.intro
            refine ⟨fun vs x hR hF K hK => ?_, ?_⟩
            · have f8 := hF 2 _ _ rfl rfl; clear hF
              go_simp
              exact hK _ _ (Grow.refl _) rfl
            refine Plan.det 13 rfl (Grow.refl) ?_
            apply Exists.intro
            refine ⟨fun vs x hR hF K hK => ?_, ?_⟩
            · have f8 := hF 3 _ _ rfl rfl; have f11 := hF 0 _ _ rfl rfl; clear hF
              go_simp
              exact hK _ _ (Grow.refl _) rfl
            refine Plan.det 14 rfl (Grow.refl) ?_
            apply Exists.intro
            refine ⟨fun vs x hR hF K hK => ?_, ?_⟩
            · have f8 := hF 4 _ _ rfl rfl; have f12 := hF 0 _ _ rfl rfl; clear hF
              go_simp
              exact hK _ _ (Grow.refl _) rfl
            refine Plan.det 15 rfl (Grow.refl) ?_
            apply Exists.intro
            refine ⟨fun vs x hR hF K hK => ?_, ?_⟩
            · have f8 := hF 5 _ _ rfl rfl; have f13 := hF 0 _ _ rfl rfl; clear hF
              go_simp
              exact hK _ _ (Grow.refl _) rfl
            refine Plan.det 16 rfl (Grow.refl) ?_
            apply Exists.intro
            refine ⟨fun vs x hR hF K hK => ?_, ?_⟩
            · have f8 := hF 6 _ _ rfl rfl; have f14 := hF 0 _ _ rfl rfl; have hc := HC.out x hR; clear hF
              go_simp
              exact hK _ _ (Grow.refl _) rfl
            refine Plan.det 17 rfl (Grow.refl) ?_
            apply Exists.intro
            refine ⟨fun vs x hR hF K hK => ?_, ?_⟩
            · have f8 := hF 7 _ _ rfl rfl; have f10 := hF 5 _ _ rfl rfl; have f15 := hF 0 _ _ rfl rfl; clear hF
              go_simp
              exact hK _ _ (Grow.refl _) rfl
            refine Plan.det 18 rfl (Grow.refl) ?_
            apply Exists.intro
            refine ⟨fun vs x hR hF K hK => ?_, ?_⟩
            · have f8 := hF 8 _ _ rfl rfl; have f16 := hF 0 _ _ rfl rfl; clear hF
              go_simp
              exact hK _ _ (Grow.refl _) rfl
            refine Plan.nil (fun vs x hR hF => ?_)
            have f0 := hF 17 _ _ rfl; have f1 := hF 16 _ _ rfl; have f2 := hF 15 _ _ rfl; have f3 := hF 14 _ _ rfl; have f4 := hF 13 _ _ rfl; have f5 := hF 12 _ _ rfl; have f6 := hF 11 _ _ rfl; have f7 := hF 10 _ _ rfl; have f8 := hF 9 _ _ rfl; have f9 := hF 8 _ _ rfl; have f10 := hF 7 _ _ rfl; have f11 := hF 6 _ _ rfl; have f12 := hF 5 _ _ rfl; have f13 := hF 4 _ _ rfl; have f14 := hF 3 _ _ rfl; have f15 := hF 2 _ _ rfl; have f16 := hF 1 _ _ rfl; have f17 := hF 0 _ _ rfl
            clear hF
            simp only [f0, f1, f2, f3, f4, f5, f6, f7, f8, f9, f10, f11, f12, f13, f14, f15, f16, f17]
            clear f0 f1 f2 f3 f4 f5 f6 f7 f8 f9 f10 f11 f12 f13 f14 f15 f16 f17
            simp only [List.drop_succ_cons, List.drop_zero]
            have HX2 := hid (And.intro HX.out.1 (And.intro (HX.out.2.1.later (grow_below hR)) (And.intro (HX.out.2.2.below (grow_below hR)) (HSQ.out.below (grow_below hR)))))
            have HC1 := hid (⟨((grow_below hR).cell (p := ⟨b, k * 2, none⟩) HC0.out.2.2).trans HC0.out.1, ((grow_below hR).cell (p := ⟨b, k * 2 + 1, none⟩) HC0.out.2.2).trans HC0.out.2.1, Nat.lt_of_lt_of_le HC0.out.2.2 (grow_below hR).size⟩ : _ ∧ _ ∧ _)
            clear HX HC q0 q1 hR HC0
            generalize x = y2 at HX2 HC1 ⊢
            have hfl : 4097 ≤ f + se1.length := by have h7 := HX2.out.2.1.2.2.2.2.2.2.1; have h8 := HF.out; dsimp only at h7; omega
            have hic := fun (x2 : World) (hx : Below y2.heap.size y2 x2) => HIH.out x2 sv1 ov1 se1 ou1 (c + 1) u1 va2 vc2 u2 (HX2.out.2.1.later hx).1 (HBW.out.trans ((HW.out.fr_below (HX2.out.2.1.later hx).2.2.1).mono HWB.out)) (HX2.out.2.1.2.2.2.2.2.1 hmn) (HX2.out.2.2.2.below hx) HPK.out.2.2 HPK.out.2.1 (by omega) hfl
            obtain ⟨r2, hr2⟩ : ∃ r2, r2 = visit p (withinAll [x0]) (firstP s.data.toList lines [x0]) f (c + 1, u1, u2) (se1, ou1) := ⟨_, rfl⟩
            rw [← hr2] at HSS
            rw [← hr2] at hic
            clear hr2 hfl
            simp only [Int.natCast_add, Int.natCast_one] at hic
            have HIC := hid hic
            clear hic
            have q0 := HX2.out.2.1.1.c
            have q1 := HX2.out.2.1.2.1.three9
            have q2 := HC1.out
            have hwr : IntKind.i64.wrap ((c : Int) + 1) = (c : Int) + 1 := by rw [IntKind.wrap_i64]; omega
            have HC := hid (fun (x : World) (hx : Grow y2.drew x) => (⟨((grow_below hx).cell (p := ⟨b, k * 2, none⟩) HC1.out.2.2).trans HC1.out.1, ((grow_below hx).cell (p := ⟨b, k * 2 + 1, none⟩) HC1.out.2.2).trans HC1.out.2.1, (HX2.out.2.1.later (grow_below hx)).1.c, (HX2.out.2.1.later (grow_below hx)).2.1.three9⟩ : _ ∧ _ ∧ _ ∧ _))
            go_wp2_with fail
            refine wp_region_two 15 17 rfl (Grow) (by kernel_rfl) (by kernel_rfl) (Grow.refl) (fun _ _ _ => Grow.trans) ?_
            simp only [fill, dstOf, Act.put, List.take_succ_cons, List.take_zero, List.getElem?_toArray, List.getElem?_cons_zero, List.getElem?_cons_succ, Option.bind_some, List.setIfInBounds_toArray, List.set_cons_zero, List.set_cons_succ]
            refine Plan.det 1 rfl (Grow.refl) ?_
            apply Exists.intro
            refine ⟨fun vs x hR hF K hK => ?_, ?_⟩
            · clear hF
              go_simp
              exact hK _ _ (Grow.refl _) rfl
            refine Plan.det 2 rfl (Grow.refl) ?_
            apply Exists.intro
            refine ⟨fun vs x hR hF K hK => ?_, ?_⟩
            · clear hF
              go_simp
              exact hK _ _ (Grow.refl _) rfl
            refine Plan.det 3 rfl (Grow.refl) ?_
            apply Exists.intro
            refine ⟨fun vs x hR hF K hK => ?_, ?_⟩
            · have f1 := hF 0 _ _ rfl rfl; have hc := HC.out x hR; clear hF
              go_simp
              exact hK _ _ (Grow.refl _) rfl
            refine Plan.det 4 rfl (Grow.refl) ?_
            apply Exists.intro
            refine ⟨fun vs x hR hF K hK => ?_, ?_⟩
            · have f2 := hF 0 _ _ rfl rfl; clear hF
              go_simp
              exact hK _ _ (Grow.refl _) rfl
            refine Plan.det 5 rfl (Grow.refl) ?_
            apply Exists.intro
            refine ⟨fun vs x hR hF K hK => ?_, ?_⟩
            · clear hF
              go_simp
              exact hK _ _ (Grow.refl _) rfl
            refine Plan.det 6 rfl (Grow.refl) ?_
            apply Exists.intro
            refine ⟨fun vs x hR hF K hK => ?_, ?_⟩
            · clear hF
              go_simp
              exact hK _ _ (Grow.refl _) rfl
            refine Plan.det 7 rfl (Grow.refl) ?_
            apply Exists.intro
            refine ⟨fun vs x hR hF K hK => ?_, ?_⟩
            · have f4 := hF 1 _ _ rfl rfl; have f5 := hF 0 _ _ rfl rfl; clear hF
              go_simp
              exact hK _ _ (Grow.refl _) rfl
            refine Plan.det 8 rfl (Grow.refl) ?_
            apply Exists.intro
            refine ⟨fun vs x hR hF K hK => ?_, ?_⟩
            · have f6 := hF 0 _ _ rfl rfl; clear hF
              go_simp
              exact hK _ _ (Grow.refl _) rfl
            refine Plan.det 9 rfl (Grow.refl) ?_
            apply Exists.intro
            refine ⟨fun vs x hR hF K hK => ?_, ?_⟩
            · have f7 := hF 0 _ _ rfl rfl; have hc := HC.out x hR; clear hF
              go_simp
              exact hK _ _ (Grow.refl _) rfl
            refine Plan.det 10 rfl (Grow.refl) ?_
            apply Exists.intro
            refine ⟨fun vs x hR hF K hK => ?_, ?_⟩
            · clear hF
              go_simp
              exact hK _ _ (Grow.refl _) rfl
            refine Plan.det 11 rfl (Grow.refl) ?_
            apply Exists.intro
            refine ⟨fun vs x hR hF K hK => ?_, ?_⟩
            · clear hF
              go_simp
              exact hK _ _ (Grow.refl _) rfl
            refine Plan.det 12 rfl (Grow.refl) ?_
            apply Exists.intro
            refine ⟨fun vs x hR hF K hK => ?_, ?_⟩
            · have f9 := hF 1 _ _ rfl rfl; have f10 := hF 0 _ _ rfl rfl; clear hF
              go_simp
              exact hK _ _ (Grow.refl _) rfl
            refine Plan.det 13 rfl (Grow.refl) ?_
            apply Exists.intro
            refine ⟨fun vs x hR hF K hK => ?_, ?_⟩
            · have f11 := hF 0 _ _ rfl rfl; clear hF
              go_simp
              exact hK _ _ (Grow.refl _) rfl
            refine Plan.det 14 rfl (Grow.refl) ?_
            apply Exists.intro
            refine ⟨fun vs x hR hF K hK => ?_, ?_⟩
            · have f12 := hF 0 _ _ rfl rfl; have hc := HC.out x hR; clear hF
              go_simp
              exact hK _ _ (Grow.refl _) rfl
            refine Plan.det 15 rfl (Grow.refl) ?_
            apply Exists.intro
            refine ⟨fun vs x hR hF K hK => ?_, ?_⟩
            · have f3 := hF 10 _ _ rfl rfl; have f8 := hF 5 _ _ rfl rfl; have f13 := hF 0 _ _ rfl rfl; clear hF
              go_simp
              exact hK _ _ (Grow.refl _) rfl
            refine PlanEnd (by simp) (fun vs x hR hF => ?_)
            have f0 := hF 14 _ _ rfl; have f1 := hF 13 _ _ rfl; have f2 := hF 12 _ _ rfl; have f3 := hF 11 _ _ rfl; have f4 := hF 10 _ _ rfl; have f5 := hF 9 _ _ rfl; have f6 := hF 8 _ _ rfl; have f7 := hF 7 _ _ rfl; have f8 := hF 6 _ _ rfl; have f9 := hF 5 _ _ rfl; have f10 := hF 4 _ _ rfl; have f11 := hF 3 _ _ rfl; have f12 := hF 2 _ _ rfl; have f13 := hF 1 _ _ rfl; have f14 := hF 0 _ _ rfl
            clear hF
            simp only [f0, f1, f2, f3, f4, f5, f6, f7, f8, f9, f10, f11, f12, f13, f14]
            clear f0 f1 f2 f3 f4 f5 f6 f7 f8 f9 f10 f11 f12 f13 f14
            intro oo hoo KQ hK
            obtain rfl := Option.some.inj hoo
            clear hoo
            have HBX := hid (grow_below hR)
            clear hR
            go_simp
            refine (HIC.out _ HBX.out).mono ?_
            rintro e w' ⟨sv2, ov2, rfl, hfr, hst⟩
            have HP := hid (And.intro hfr hst)
            clear hfr hst
            refine ⟨_, rfl, hK _ _ ?_⟩
            clear hK
            unfold AfterC
            simp only [fill, dstOf, Act.put, List.getElem?_toArray, List.getElem?_cons_zero, List.getElem?_cons_succ, Option.bind_some, List.setIfInBounds_toArray, List.set_cons_zero, List.set_cons_succ, List.drop_succ_cons, List.drop_zero]
            refine Plan.det 17 rfl (fun _ => rfl) ?_
            apply Exists.intro
            refine ⟨fun vs x hR hF K hK => ?_, ?_⟩
            · have f15 := hF 0 _ _ rfl rfl; clear hF
              go_simp
              exact hK _ _ rfl rfl
            refine Plan.nil (fun vs x hR2 hF => ?_)
            have f15 := hF 1 _ _ rfl; have f16 := hF 0 _ _ rfl
            clear hF
            simp only [f15, f16]
            clear f15 f16
            subst hR2
            simp only [List.drop_succ_cons, List.drop_nil]
            have HFR := hid ((HX2.out.2.1.later HBX.out).2.2.1.trans HP.out.1)
            cases r2 with
            | none =>
              have hv0 := HV.out
              rw [HVF2.out, foldlM_none HQ.out HX2.out.1 HSS.out] at hv0
              have HV0 := hid hv0
              clear hv0 HC q0 q1 q2
              go_wp2_with fail
              go_ret
              exact ⟨_, _, by rw [HV0.out]; rfl, HFR.out, fun st' hst' => by rw [HV0.out] at hst'; cases hst'⟩
            | some st2 =>
              have hp := HP.out.2 st2 rfl
              have HX3 := hid (And.intro ((foldlM_step HQ.out HX2.out.1).trans HSS.out) (And.intro ((HX2.out.2.1.later HBX.out).step HP.out.1 hp.1 hp.2.1 hp.2.2) ((HX2.out.2.1.later HBX.out).1.fr_ps HP.out.1 (HX2.out.2.2.1.below HBX.out))))
              clear hp HC q0 q1 q2
              go_wp2_with fail
              refine ⟨⟨k + 1, sv2, ov2, st2, by go_num, by omega, HX3.out⟩, ?_⟩
              simp [intOf] <;> omega
        · obtain rfl : k = n := by omega
          have hltI : ¬ (k : Int) < (k : Int) := by omega
          have htk : l.take k = l := by rw [HNN.out]; exact List.take_length
          have HE : Hid (vfold p (withinAll [x0]) (firstP s.data.toList lines [x0]) f c i sp seen out = some (se1, ou1)) := by show _ = _; rw [HVF2.out, ← HX.out.1, htk]
          clear htk
          go_wp2_with fail
          go_meet
          exact ⟨sv1, ov1, (se1, ou1), HE.out, HX.out.2.1⟩
    obtain ⟨sv2, ov2, st2, HVF, hVA⟩ := hcut
    have HVA := hid hVA
    clear hVA HZ q0 q1 HIH HCHILD
    generalize wc = z at HVA ⊢
    have hv0 := HV.out
    rw [HVF.out] at hv0
    have hvl := vfold_len (visit_len f) HVF.out
    have hol : out.length ≤ seen.length := HST.out.2.2.1
    refine hK8 _ _ ?_
    clear hK8 HV HVF
    obtain ⟨oa, on, oc, rfl⟩ : ∃ oa on oc, ov2 = .slice oa on oc := by obtain ⟨a, c, e⟩ := HVA.out.1.2.2.1.form; exact ⟨_, _, _, e⟩
    obtain ⟨se2, ou2⟩ := st2
    have HOKS := hid (HVA.out.2.2.2.2.2.1 hmn)
    have q0 := HVA.out.1.c
    have q1 := HVA.out.2.1.three9
    have HC := hid (fun (x : World) (hx : Grow z.drew x) => (⟨(HVA.out.later (grow_below hx)).1.c, (HVA.out.later (grow_below hx)).2.1.three9⟩ : _ ∧ _))
    by_cases hle : p.lo ≤ (c : Int)
    · have hd : decide (p.lo ≤ (c : Int)) = true := by simp [hle]
      have hve : vend p c i sp (se2, ou2) = (se2, ou2 ++ [(i, sp)]) := by unfold vend; rw [if_pos hle]
      rw [Option.bind_some, hve] at hv0
      have HV0 := hid hv0
      have hvl2 : ou2.length + 1 ≤ se2.length := by dsimp only at hvl; omega
      clear hle hv0 hve hvl hol
      go_wp2_with fail
      refine wp_region_inv 8 (Grow) (by kernel_rfl) (by kernel_rfl) (Grow.refl) (fun _ _ _ => Grow.trans) ?_
      simp only [fill, dstOf, Act.put, List.take_succ_cons, List.take_zero, List.getElem?_toArray, List.getElem?_cons_zero, List.getElem?_cons_succ, Option.bind_some, List.setIfInBounds_toArray, List.set_cons_zero, List.set_cons_succ]
      refine Plan.det 1 rfl (Grow.refl) ?_
      apply Exists.intro
      refine ⟨fun vs x hR hF K hK => ?_, ?_⟩
      · clear hF
        go_simp
        exact hK _ _ (Grow.refl _) rfl
      refine Plan.det 2 rfl (Grow.refl) ?_
      apply Exists.intro
      refine ⟨fun vs x hR hF K hK => ?_, ?_⟩
      · have f0 := hF 0 _ _ rfl rfl; have hc := HC.out x hR; clear hF
        go_simp
        exact hK _ _ (Grow.refl _) rfl
      refine Plan.det 3 rfl (Grow.refl) ?_
      apply Exists.intro
      refine ⟨fun vs x hR hF K hK => ?_, ?_⟩
      · clear hF
        go_simp
        exact hK _ _ (Grow.refl _) rfl
      refine Plan.det 4 rfl (Grow.refl) ?_
      apply Exists.intro
      refine ⟨fun vs x hR hF K hK => ?_, ?_⟩
      · have f2 := hF 0 _ _ rfl rfl; clear hF
        go_simp
        exact hK _ _ (Grow.refl _) rfl
      refine Plan.det 5 rfl (Grow.refl) ?_
      apply Exists.intro
      refine ⟨fun vs x hR hF K hK => ?_, ?_⟩
      · have f3 := hF 0 _ _ rfl rfl; clear hF
        go_simp
        exact hK _ _ (Grow.refl _) rfl
      refine Plan.det 6 rfl (Grow.refl) ?_
      apply Exists.intro
      refine ⟨fun vs x hR hF K hK => ?_, ?_⟩
      · have f4 := hF 0 _ _ rfl rfl; clear hF
        go_simp
        exact hK _ _ (Grow.refl _) rfl
      refine Plan.det 7 rfl (Grow.refl) ?_
      apply Exists.intro
      refine ⟨fun vs x hR hF K hK => ?_, ?_⟩
      · have f5 := hF 0 _ _ rfl rfl; have hc := HC.out x hR; clear hF
        go_simp
        exact hK _ _ (Grow.refl _) rfl
      refine Plan.det 8 rfl (Grow.refl) ?_
      apply Exists.intro
      refine ⟨fun vs x hR hF K hK => ?_, ?_⟩
      · have f1 := hF 5 _ _ rfl rfl; have f6 := hF 0 _ _ rfl rfl; clear hF
        go_simp
        exact hK _ _ (Grow.refl _) rfl
      refine Plan.nil (fun vs x hR hF => ?_)
      have f0 := hF 7 _ _ rfl; have f1 := hF 6 _ _ rfl; have f2 := hF 5 _ _ rfl; have f3 := hF 4 _ _ rfl; have f4 := hF 3 _ _ rfl; have f5 := hF 2 _ _ rfl; have f6 := hF 1 _ _ rfl; have f7 := hF 0 _ _ rfl
      clear hF
      simp only [f0, f1, f2, f3, f4, f5, f6, f7]
      clear f0 f1 f2 f3 f4 f5 f6 f7
      simp only [List.drop_succ_cons, List.drop_zero]
      have HVB := hid (HVA.out.later (grow_below hR))
      clear HVA HC q0 q1 hR
      generalize x = z1 at HVB ⊢
      have q0 := HVB.out.1.c
      have q1 := HVB.out.2.1.three9
      have HALL : Hid (∀ q, q ∈ (i, sp) :: nub ou2 → q.2.length ≤ 9 ∧ q.1 ≤ 1000000) := by
        intro q hq
        rcases List.mem_cons.1 hq with rfl | hq
        · exact ⟨hspl, by dsimp only; omega⟩
        · have h4 := HOKS.out.2.2.2 q (nub_mem.1 hq)
          have h5 := h4.2.1
          have h6 := h4.2.2.1
          exact ⟨by omega, by omega⟩
      have hnl : (nub ou2).length ≤ 100000 := by
        have h4 := nub_le ou2
        have h5 := HOKS.out.2.1
        dsimp only at h5
        omega
      have HADD := hid (fun (x : World) (hx : Below z1.heap.size z1 x) => radd_any x base (.slice oa on oc) (.slice sa sp.length sc) (nub ou2) i sp ((HVB.out.later hx).1.2.2.1) ((HVB.out.later hx).2.2.2.1) hnl (Nat.le_trans (HVB.out.later hx).1.2.2.2 (Nat.le_of_lt (HVB.out.later hx).1.1.lt)) HALL.out)
      clear hnl HALL
      go_upto_region 19 with fail
      go_region_with (go_at_call 49; refine (HADD.out _ (Below.refl _ _).drew).mono ?_; rintro e w3 ⟨a3, c3, rfl, ho3, hg3, hn3⟩; have hr3 := (HVB.out.1.later (Below.refl _ _).drew).grownX hg3; have q3 : w3.cell? ⟨X, 12, none⟩ = some (.slice oa on oc) ∧ w3.frozen? ⟨X, 12, none⟩ = false := ⟨hr3.cell 12, hr3.free 12⟩; clear hr3)
      all_goals
        go_wp2_with fail
        go_ret
        refine ⟨sv2, _, by rw [HV0.out]; rfl, HVB.out.2.2.1.trans ((Fr.of_below (Below.refl _ _).drew).trans (Fr.newOut hg3 hn3 rfl)), fun st' hst' => ?_⟩
        rw [HV0.out] at hst'
        have := Option.some.inj hst'
        subst this
        refine ⟨LpAt.newOut (HVB.out.1.later (Below.refl _ _).drew) (by rw [nub_snoc]; exact ho3) hg3 rfl, ⟨HOKS.out.1, HOKS.out.2.1, by simp; omega, fun q hq => ?_⟩, Nat.le_of_lt HVB.out.2.2.2.2.2.2.1⟩
        rcases List.mem_append.1 hq with hq | hq
        · exact HOKS.out.2.2.2 q hq
        · have := List.mem_singleton.1 hq
          subst this
          exact ⟨Nat.zero_le _, hi, HSO.out⟩
    · have hd : decide (p.lo ≤ (c : Int)) = false := by simp [hle]
      have hve : vend p c i sp (se2, ou2) = (se2, ou2) := by unfold vend; rw [if_neg hle]
      rw [Option.bind_some, hve] at hv0
      have HV0 := hid hv0
      clear hle hv0 hve hvl hol
      go_wp2_with fail
      refine wp_region_inv 8 (Grow) (by kernel_rfl) (by kernel_rfl) (Grow.refl) (fun _ _ _ => Grow.trans) ?_
      simp only [fill, dstOf, Act.put, List.take_succ_cons, List.take_zero, List.getElem?_toArray, List.getElem?_cons_zero, List.getElem?_cons_succ, Option.bind_some, List.setIfInBounds_toArray, List.set_cons_zero, List.set_cons_succ]
      refine Plan.det 1 rfl (Grow.refl) ?_
      apply Exists.intro
      refine ⟨fun vs x hR hF K hK => ?_, ?_⟩
      · clear hF
        go_simp
        exact hK _ _ (Grow.refl _) rfl
      refine Plan.det 2 rfl (Grow.refl) ?_
      apply Exists.intro
      refine ⟨fun vs x hR hF K hK => ?_, ?_⟩
      · have f0 := hF 0 _ _ rfl rfl; have hc := HC.out x hR; clear hF
        go_simp
        exact hK _ _ (Grow.refl _) rfl
      refine Plan.det 3 rfl (Grow.refl) ?_
      apply Exists.intro
      refine ⟨fun vs x hR hF K hK => ?_, ?_⟩
      · clear hF
        go_simp
        exact hK _ _ (Grow.refl _) rfl
      refine Plan.det 4 rfl (Grow.refl) ?_
      apply Exists.intro
      refine ⟨fun vs x hR hF K hK => ?_, ?_⟩
      · have f2 := hF 0 _ _ rfl rfl; clear hF
        go_simp
        exact hK _ _ (Grow.refl _) rfl
      refine Plan.det 5 rfl (Grow.refl) ?_
      apply Exists.intro
      refine ⟨fun vs x hR hF K hK => ?_, ?_⟩
      · have f3 := hF 0 _ _ rfl rfl; clear hF
        go_simp
        exact hK _ _ (Grow.refl _) rfl
      refine Plan.det 6 rfl (Grow.refl) ?_
      apply Exists.intro
      refine ⟨fun vs x hR hF K hK => ?_, ?_⟩
      · have f4 := hF 0 _ _ rfl rfl; clear hF
        go_simp
        exact hK _ _ (Grow.refl _) rfl
      refine Plan.det 7 rfl (Grow.refl) ?_
      apply Exists.intro
      refine ⟨fun vs x hR hF K hK => ?_, ?_⟩
      · have f5 := hF 0 _ _ rfl rfl; have hc := HC.out x hR; clear hF
        go_simp
        exact hK _ _ (Grow.refl _) rfl
      refine Plan.det 8 rfl (Grow.refl) ?_
      apply Exists.intro
      refine ⟨fun vs x hR hF K hK => ?_, ?_⟩
      · have f1 := hF 5 _ _ rfl rfl; have f6 := hF 0 _ _ rfl rfl; clear hF
        go_simp
        exact hK _ _ (Grow.refl _) rfl
      refine Plan.nil (fun vs x hR hF => ?_)
      have f0 := hF 7 _ _ rfl; have f1 := hF 6 _ _ rfl; have f2 := hF 5 _ _ rfl; have f3 := hF 4 _ _ rfl; have f4 := hF 3 _ _ rfl; have f5 := hF 2 _ _ rfl; have f6 := hF 1 _ _ rfl; have f7 := hF 0 _ _ rfl
      clear hF
      simp only [f0, f1, f2, f3, f4, f5, f6, f7]
      clear f0 f1 f2 f3 f4 f5 f6 f7
      simp only [List.drop_succ_cons, List.drop_zero]
      have HVB := hid (HVA.out.later (grow_below hR))
      clear HVA HC q0 q1 hR
      go_wp2_with fail
      go_ret
      exact ⟨_, _, by rw [HV0.out]; rfl, HVB.out.2.2.1, fun st' hst' => by rw [HV0.out] at hst'; have := Option.some.inj hst'; subst this; exact ⟨HVB.out.1, HOKS.out, Nat.le_of_lt HVB.out.2.2.2.2.2.2.1⟩⟩
end Go.Proofs.Ythnpbopnpdlmnaa
