/- The threads of a search, plainly: what they are at an offset, and what a match is. -/
import Derived.Test.YthnpbopnpdlmnaaX16
import Derived.Test.YthnpbopnpdlmnaaX14
import Derived.Test.YthnpbopnpdlmnaaX15
namespace Go.Proofs.Ythnpbopnpdlmnaa
open Go.RowKit

structure Thr (m : Sim) (lo i : Nat) (P : Nat → Prop) (T : List (Nat × Nat)) : Prop where
  nd : (T.map Prod.fst).Nodup
  srt : T.Pairwise fun p q => p.2 ≤ q.2
  src : ∀ k f, (k, f) ∈ T → m.leaf k ∧ lo ≤ f ∧ P f ∧ m.R f (i - f) k ∧ ∀ g, lo ≤ g → g < f → ¬ m.R g (i - g) k
  all : ∀ k f, m.leaf k → lo ≤ f → P f → m.R f (i - f) k → ∃ g, g ≤ f ∧ (k, g) ∈ T
theorem Thr.none (m : Sim) (lo i : Nat) {P : Nat → Prop} (hP : ∀ f, lo ≤ f → ¬ P f) : Thr m lo i P [] where
  nd := List.nodup_nil
  srt := List.Pairwise.nil
  src k f h := absurd h (by simp)
  all k f _ h1 h2 := absurd h2 (hP f h1)
theorem starts_mem {m : Sim} {i : Nat} {kp : Nat × Nat → Bool} {T : List (Nat × Nat)} {x f : Nat} : (x, f) ∈ starts m i kp T ↔ ∃ j, (j, f) ∈ T ∧ goes m i (j, f) = true ∧ kp (j, f) = true ∧ x = j + 1 := by
  unfold starts
  rw [List.mem_map]
  constructor
  · rintro ⟨⟨j, g⟩, h, e⟩
    rw [List.mem_filter] at h
    injection e with e1 e2
    subst e1 e2
    have h2 : goes m i (j, g) = true ∧ kp (j, g) = true := by simpa using h.2
    exact ⟨j, h.1, h2.1, h2.2, rfl⟩
  · rintro ⟨j, h1, h2, h3, rfl⟩
    exact ⟨(j, f), List.mem_filter.2 ⟨h1, by simp [h2, h3]⟩, rfl⟩
theorem goes_takes {m : Sim} {i j f : Nat} : goes m i (j, f) = true ↔ m.takes i j := by
  unfold goes Sim.takes
  simp
theorem starts_srt {m : Sim} {i : Nat} {kp : Nat × Nat → Bool} {T : List (Nat × Nat)} (h : T.Pairwise fun p q => p.2 ≤ q.2) : (starts m i kp T).Pairwise fun p q => p.2 ≤ q.2 := by
  unfold starts
  rw [List.pairwise_map]
  exact h.filter _
theorem R_back {m : Sim} {g i k : Nat} (hg : g ≤ i) (h : m.R g (i + 1 - g) k) : ∃ j, m.R g (i - g) j ∧ m.takes i j ∧ m.Reach (i + 1) (· = j + 1) k := by
  rw [show i + 1 - g = (i - g) + 1 by omega] at h
  have h2 : m.Reach (g + (i - g + 1)) (fun k => ∃ j, m.R g (i - g) j ∧ m.takes (g + (i - g)) j ∧ k = j + 1) k := h
  rw [show g + (i - g + 1) = i + 1 by omega, show g + (i - g) = i by omega] at h2
  obtain ⟨x, ⟨j, h3, h4, rfl⟩, h5⟩ := h2.split
  exact ⟨j, h3, h4, h5⟩
theorem R_on {m : Sim} {g i j k : Nat} (hg : g ≤ i) (h : m.R g (i - g) j) (ht : m.takes i j) (hr : m.Reach (i + 1) (· = j + 1) k) : m.R g (i + 1 - g) k := by
  rw [show i + 1 - g = (i - g) + 1 by omega]
  show m.Reach (g + (i - g + 1)) (fun k => ∃ j, m.R g (i - g) j ∧ m.takes (g + (i - g)) j ∧ k = j + 1) k
  rw [show g + (i - g + 1) = i + 1 by omega, show g + (i - g) = i by omega]
  exact Sim.Reach.join ⟨j, h, ht, rfl⟩ hr
theorem takes_leaf {m : Sim} {i j : Nat} (h : m.takes i j) : m.leaf j := .inl h.1
theorem srt_split {S1 S2 : List (Nat × Nat)} {x f : Nat} (h : (S1 ++ (x, f) :: S2).Pairwise fun p q => p.2 ≤ q.2) {y g : Nat} (hm : (y, g) ∈ S1 ++ (x, f) :: S2) (hn : (y, g) ∉ S1) : f ≤ g := by
  rw [List.pairwise_append, List.pairwise_cons] at h
  rcases List.mem_append.1 hm with h1 | h1
  · exact absurd h1 hn
  · rcases List.mem_cons.1 h1 with h1 | h1
    · injection h1 with e1 e2; omega
    · exact h.2.1.1 _ h1
theorem srt_split2 {S1 S2 : List (Nat × Nat)} {x f : Nat} (h : (S1 ++ (x, f) :: S2).Pairwise fun p q => p.2 ≤ q.2) {y g : Nat} (hm : (y, g) ∈ S1 ++ (x, f) :: S2) (hl : g < f) : (y, g) ∈ S1 := by
  by_cases hn : (y, g) ∈ S1
  · exact hn
  · have := srt_split h hm hn
    omega
theorem Thr.next {m : Sim} {lo i : Nat} {P P' : Nat → Prop} {kp : Nat × Nat → Bool} {T out : List (Nat × Nat)} (h : Thr m lo i P T) (ho : Outs m (i + 1) (starts m i kp T) out) (hle : ∀ f, P f → f ≤ i)
    (hkp : ∀ k f, (k, f) ∈ T → (kp (k, f) = true ↔ P' f)) (hPP : ∀ f, P' f → P f) (hdn : ∀ f g, lo ≤ g → g ≤ f → P' f → P' g) : Thr m lo (i + 1) P' out := by
  have hS := starts_srt (m := m) (i := i) (kp := kp) h.srt
  have hin : ∀ k f, lo ≤ f → P' f → m.R f (i + 1 - f) k → ∃ j g, g ≤ f ∧ (j + 1, g) ∈ starts m i kp T ∧ m.Reach (i + 1) (· = j + 1) k := by
    intro k f hlo hf hr
    obtain ⟨j, h1, h2, h3⟩ := R_back (hle f (hPP f hf)) hr
    obtain ⟨g, hg, hgm⟩ := h.all j f (takes_leaf h2) hlo (hPP f hf) h1
    have hlg := (h.src j g hgm).2.1
    exact ⟨j, g, hg, starts_mem.2 ⟨j, hgm, goes_takes.2 h2, (hkp j g hgm).2 (hdn f g hlg hg hf), rfl⟩, h3⟩
  refine ⟨ho.nd, ho.srt hS, fun k f hk => ?_, fun k f hl hlo hf hr => ?_⟩
  · obtain ⟨h1, S1, x, S2, hSe, hr, hno⟩ := ho.src k f hk
    have hxm : (x, f) ∈ starts m i kp T := by rw [hSe]; simp
    obtain ⟨j, hj, hg, hkj, rfl⟩ := starts_mem.1 hxm
    obtain ⟨h2, h3, h4, h5, h6⟩ := h.src j f hj
    have hf' := (hkp j f hj).1 hkj
    refine ⟨h1, h3, hf', R_on (hle f h4) h5 (goes_takes.1 hg) hr, fun g hlg hgf hrg => ?_⟩
    obtain ⟨j', g', hg', hgm', hr'⟩ := hin k g hlg (hdn f g hlg (by omega) hf') hrg
    rw [hSe] at hgm' hS
    exact hno _ (srt_split2 hS hgm' (by omega)) hr'
  · obtain ⟨j, g, hg, hgm, hr'⟩ := hin k f hlo hf hr
    obtain ⟨f', hf'⟩ := ho.all _ _ k hgm hr' hl
    obtain ⟨-, S1, x, S2, hSe, -, hno⟩ := ho.src k f' hf'
    rw [hSe] at hgm hS
    have := srt_split hS hgm (fun hn => hno _ hn hr')
    exact ⟨f', by omega, hf'⟩
theorem Outs.mem {m : Sim} {j : Nat} {S out : List (Nat × Nat)} (h : Outs m j S out) {k : Nat} (hl : m.leaf k) : k ∈ out.map Prod.fst ↔ ∃ s, s ∈ S ∧ m.Reach j (· = s.1) k := by
  rw [List.mem_map]
  constructor
  · rintro ⟨⟨k', f⟩, hk, rfl⟩
    obtain ⟨-, S1, x, S2, hS, hr, -⟩ := h.src k' f hk
    exact ⟨(x, f), by rw [hS]; simp, hr⟩
  · rintro ⟨⟨x, f⟩, hs, hr⟩
    obtain ⟨f', hf'⟩ := h.all x f k hs hr hl
    exact ⟨(k, f'), hf', rfl⟩
theorem Thr.start {m : Sim} {lo i : Nat} {P P' : Nat → Prop} {T : List (Nat × Nat)} {news : List Nat} (h : Thr m lo i P T) (hP : ∀ f, lo ≤ f → (P f ↔ f < i)) (hP' : ∀ f, lo ≤ f → (P' f ↔ f ≤ i)) (hlo : lo ≤ i) (hn : news.Nodup) (hm : ∀ k, k ∈ news ↔ m.leaf k ∧ m.Reach i (· = 0) k ∧ k ∉ T.map Prod.fst) :
    Thr m lo i P' (T ++ news.map fun k => (k, i)) := by
  have e1 : (news.map fun k => (k, i)).map Prod.fst = news := by
    rw [List.map_map]
    exact List.map_id' news
  have hr0 : ∀ k, m.R i (i - i) k ↔ m.Reach i (· = 0) k := fun k => by rw [Nat.sub_self]; exact Iff.rfl
  refine ⟨?_, ?_, fun k f hk => ?_, fun k f hl hf hp hr => ?_⟩
  · rw [List.map_append, e1, List.nodup_append]
    refine ⟨h.nd, hn, fun a ha b hb => ?_⟩
    rintro rfl
    exact ((hm a).1 hb).2.2 ha
  · rw [List.pairwise_append]
    refine ⟨h.srt, ?_, fun a ha b hb => ?_⟩
    · rw [List.pairwise_map]
      exact List.pairwise_iff_forall_sublist.2 fun _ => Nat.le_refl _
    · obtain ⟨k, f⟩ := a
      obtain ⟨-, h2, h3, -⟩ := h.src k f ha
      obtain ⟨k', -, rfl⟩ := List.mem_map.1 hb
      have := (hP f h2).1 h3
      show f ≤ i
      omega
  · rcases List.mem_append.1 hk with hk | hk
    · obtain ⟨h1, h2, h3, h4, h5⟩ := h.src k f hk
      have := (hP f h2).1 h3
      exact ⟨h1, h2, (hP' f h2).2 (by omega), h4, h5⟩
    · obtain ⟨k', hk', e⟩ := List.mem_map.1 hk
      injection e with e2 e3
      subst e2 e3
      obtain ⟨h1, h2, h3⟩ := (hm k').1 hk'
      refine ⟨h1, hlo, (hP' _ hlo).2 (Nat.le_refl _), (hr0 k').2 h2, fun g hg hgi hr => h3 ?_⟩
      obtain ⟨f', -, hf'⟩ := h.all k' g h1 hg ((hP g hg).2 hgi) hr
      exact List.mem_map.2 ⟨_, hf', rfl⟩
  · have hfi := (hP' f hf).1 hp
    rcases Nat.lt_or_ge f i with h1 | h1
    · obtain ⟨g, hg, hgm⟩ := h.all k f hl hf ((hP f hf).2 h1) hr
      exact ⟨g, hg, List.mem_append.2 (.inl hgm)⟩
    · obtain rfl : f = i := by omega
      by_cases hk : k ∈ T.map Prod.fst
      · obtain ⟨⟨k', g⟩, hg, rfl⟩ := List.mem_map.1 hk
        obtain ⟨-, h2, h3, -⟩ := h.src k' g hg
        have := (hP g h2).1 h3
        exact ⟨g, by omega, List.mem_append.2 (.inl hg)⟩
      · exact ⟨f, Nat.le_refl _, List.mem_append.2 (.inr (List.mem_map.2 ⟨k, (hm k).2 ⟨hl, (hr0 k).1 hr, hk⟩, rfl⟩))⟩
theorem Thr.lt {m : Sim} (hR : rightAll m.L) {lo i : Nat} {P : Nat → Prop} {T : List (Nat × Nat)} (h : Thr m lo i P T) {t : Nat × Nat} (ht : t ∈ T) : t.1 < m.L.length := by
  obtain ⟨k, f⟩ := t
  exact Sim.R_lt hR f _ k (h.src k f ht).2.2.2.1
def hit (m : Sim) (f j : Nat) : Prop := ∃ k, (m.inst k).op = 6 ∧ m.R f (j - f) k
def Best (m : Sim) (lo i : Nat) : Option (Nat × Nat) → Prop
  | none => ∀ f j, lo ≤ f → f ≤ j → j < i → ¬ hit m f j
  | some (F, E) => lo ≤ F ∧ F ≤ E ∧ E < i ∧ hit m F E ∧ (∀ j, E < j → j < i → ¬ hit m F j) ∧ ∀ f j, lo ≤ f → f < F → f ≤ j → j < i → ¬ hit m f j
theorem Best.unique {m : Sim} {lo i : Nat} {b b' : Option (Nat × Nat)} (h : Best m lo i b) (h' : Best m lo i b') : b = b' := by
  match b, b', h, h' with
  | none, none, _, _ => rfl
  | none, some (F, E), h, h' => exact absurd h'.2.2.2.1 (h F E h'.1 h'.2.1 h'.2.2.1)
  | some (F, E), none, h', h => exact absurd h'.2.2.2.1 (h F E h'.1 h'.2.1 h'.2.2.1)
  | some (F, E), some (F', E'), h, h' =>
    obtain ⟨a1, a2, a3, a4, a5, a6⟩ := h
    obtain ⟨b1, b2, b3, b4, b5, b6⟩ := h'
    have e : F = F' := by
      rcases Nat.lt_trichotomy F F' with h1 | h1 | h1
      · exact absurd a4 (b6 F E a1 h1 a2 a3)
      · exact h1
      · exact absurd b4 (a6 F' E' b1 h1 b2 b3)
    subst e
    have e : E = E' := by
      rcases Nat.lt_trichotomy E E' with h1 | h1 | h1
      · exact absurd b4 (a5 E' h1 b3)
      · exact h1
      · exact absurd a4 (b5 E h1 a3)
    rw [e]
def live (b : Option (Nat × Nat)) (i f : Nat) : Prop := f ≤ i ∧ ∀ F E, b = some (F, E) → f ≤ F
def chkT1 (i f : Nat) : Option (Nat × Nat) → Option (Nat × Nat)
  | none => some (f, i)
  | some (F, E) => if f ≤ F then some (f, i) else some (F, E)
def chkT (m : Sim) (i : Nat) : List (Nat × Nat) → Option (Nat × Nat) → Option (Nat × Nat)
  | [], b => b
  | t :: T, b => chkT m i T (if (m.inst t.1).op = 6 then chkT1 i t.2 b else b)
theorem chkT_snoc (m : Sim) (i : Nat) (t : Nat × Nat) : ∀ (T : List (Nat × Nat)) (b : Option (Nat × Nat)), chkT m i (T ++ [t]) b = chkT m i [t] (chkT m i T b)
  | [], b => rfl
  | s :: T, b => by
    show chkT m i (T ++ [t]) _ = chkT m i [t] (chkT m i T _)
    exact chkT_snoc m i t T _
theorem chkT_still (m : Sim) (i F : Nat) : ∀ (T : List (Nat × Nat)), (∀ t, t ∈ T → F ≤ t.2) → chkT m i T (some (F, i)) = some (F, i)
  | [], _ => rfl
  | t :: T, h => by
    have h1 := h t (by simp)
    have ih := chkT_still m i F T (fun s hs => h s (by simp [hs]))
    show chkT m i T (if (m.inst t.1).op = 6 then (if t.2 ≤ F then some (t.2, i) else some (F, i)) else some (F, i)) = _
    have e : (if (m.inst t.1).op = 6 then (if t.2 ≤ F then some (t.2, i) else some (F, i)) else some (F, i)) = some (F, i) := by
      split
      · split
        · have : t.2 = F := by omega
          rw [this]
        · rfl
      · rfl
    rw [e]
    exact ih
theorem chkT_cases (m : Sim) (i : Nat) : ∀ (T : List (Nat × Nat)) (b : Option (Nat × Nat)), (T.Pairwise fun p q => p.2 ≤ q.2) → (∀ F E, b = some (F, E) → ∀ t, t ∈ T → t.2 ≤ F) →
    (∃ t, t ∈ T ∧ (m.inst t.1).op = 6 ∧ (∀ s, s ∈ T → (m.inst s.1).op = 6 → t.2 ≤ s.2) ∧ chkT m i T b = some (t.2, i)) ∨ ((∀ t, t ∈ T → (m.inst t.1).op ≠ 6) ∧ chkT m i T b = b)
  | [], b, _, _ => .inr ⟨fun t ht => (by cases ht), rfl⟩
  | t :: T, b, hs, hb => by
    rw [List.pairwise_cons] at hs
    by_cases hop : (m.inst t.1).op = 6
    · refine .inl ⟨t, by simp, hop, fun s hsm _ => ?_, ?_⟩
      · rcases List.mem_cons.1 hsm with rfl | hsm
        · exact Nat.le_refl _
        · exact hs.1 s hsm
      · show chkT m i T (if (m.inst t.1).op = 6 then chkT1 i t.2 b else b) = _
        rw [if_pos hop]
        have e : chkT1 i t.2 b = some (t.2, i) := by
          match b, hb with
          | none, _ => rfl
          | some (F, E), hb => exact if_pos (hb F E rfl t (by simp))
        rw [e]
        exact chkT_still m i t.2 T hs.1
    · have e : chkT m i (t :: T) b = chkT m i T b := by
        show chkT m i T (if (m.inst t.1).op = 6 then chkT1 i t.2 b else b) = _
        rw [if_neg hop]
      rw [e]
      rcases chkT_cases m i T b hs.2 (fun F E hbe s hsm => hb F E hbe s (by simp [hsm])) with ⟨s, h1, h2, h3, h4⟩ | ⟨h1, h2⟩
      · refine .inl ⟨s, by simp [h1], h2, fun s' hs' ho => ?_, h4⟩
        rcases List.mem_cons.1 hs' with rfl | hs'
        · exact absurd ho hop
        · exact h3 s' hs' ho
      · refine .inr ⟨fun s hsm => ?_, h2⟩
        rcases List.mem_cons.1 hsm with rfl | hsm
        · exact hop
        · exact h1 s hsm
theorem op6_leaf {m : Sim} {k : Nat} (h : (m.inst k).op = 6) : m.leaf k := .inr h
theorem Thr.seen {m : Sim} {lo i : Nat} {P : Nat → Prop} {T : List (Nat × Nat)} (h : Thr m lo i P T) {f : Nat} (hlo : lo ≤ f) (hf : P f) (hh : hit m f i) : ∃ t, t ∈ T ∧ (m.inst t.1).op = 6 ∧ t.2 ≤ f := by
  obtain ⟨k, h1, h2⟩ := hh
  obtain ⟨g, hg, hgm⟩ := h.all k f (op6_leaf h1) hlo hf h2
  exact ⟨(k, g), hgm, h1, hg⟩
theorem Best.chkT {m : Sim} {lo i : Nat} {b : Option (Nat × Nat)} {T : List (Nat × Nat)} (h : Best m lo i b) (ht : Thr m lo i (live b i) T) : Best m lo (i + 1) (chkT m i T b) ∧ ∀ f, live (Go.Proofs.Ythnpbopnpdlmnaa.chkT m i T b) i f → live b i f := by
  have hlab : ∀ F E, b = some (F, E) → ∀ t, t ∈ T → t.2 ≤ F := fun F E e t hm => by
    obtain ⟨k, f⟩ := t
    exact (ht.src k f hm).2.2.1.2 F E e
  rcases chkT_cases m i T b ht.srt hlab with ⟨⟨k, f⟩, hm, hop, hle, e⟩ | ⟨hno, e⟩
  · rw [e]
    obtain ⟨-, h1, h2, h3, -⟩ := ht.src k f hm
    refine ⟨⟨h1, h2.1, Nat.lt_succ_self _, ⟨k, hop, h3⟩, fun j h4 h5 => by omega, fun g j hg hgf hgj hj hh => ?_⟩, fun g hg => ⟨hg.1, fun F E eb => ?_⟩⟩
    · rcases Nat.lt_or_ge j i with h4 | h4
      · match b, h, hlab with
        | none, h, _ => exact h g j hg hgj h4 hh
        | some (F, E), h, hlab => exact h.2.2.2.2.2 g j hg (by have : f ≤ F := hlab F E rfl _ hm; omega) hgj h4 hh
      · obtain rfl : j = i := by omega
        obtain ⟨s, hs, hso, hsg⟩ := ht.seen hg ⟨hgj, fun F E eb => by have := h2.2 F E eb; omega⟩ hh
        have : f ≤ s.2 := hle s hs hso
        omega
    · have h5 := hg.2 f i rfl
      have h6 := h2.2 F E eb
      omega
  · rw [e]
    refine ⟨?_, fun f hf => hf⟩
    have hn : ∀ f, lo ≤ f → live b i f → ¬ hit m f i := fun f hlo hl hh => by
      obtain ⟨s, hs, hso, -⟩ := ht.seen hlo hl hh
      exact hno s hs hso
    match b, h, hn with
    | none, h, hn =>
      intro f j h1 h2 h3 hh
      rcases Nat.lt_or_ge j i with h4 | h4
      · exact h f j h1 h2 h4 hh
      · obtain rfl : j = i := by omega
        exact hn f h1 ⟨h2, fun F E e => by cases e⟩ hh
    | some (F, E), ⟨a1, a2, a3, a4, a5, a6⟩, hn =>
      refine ⟨a1, a2, by omega, a4, fun j h1 h2 hh => ?_, fun f j h1 h2 h3 h4 hh => ?_⟩
      · rcases Nat.lt_or_ge j i with h5 | h5
        · exact a5 j h1 h5 hh
        · obtain rfl : j = i := by omega
          exact hn F a1 ⟨by omega, fun F' E' e => by injection e with e; injection e with e1 e2; omega⟩ hh
      · rcases Nat.lt_or_ge j i with h5 | h5
        · exact a6 f j h1 h2 h3 h5 hh
        · obtain rfl : j = i := by omega
          exact hn f h1 ⟨h3, fun F' E' e => by injection e with e; injection e with e1 e2; omega⟩ hh
theorem Thr.congr {m : Sim} {lo i : Nat} {P P' : Nat → Prop} {T : List (Nat × Nat)} (h : Thr m lo i P T) (hp : ∀ f, lo ≤ f → (P f ↔ P' f)) : Thr m lo i P' T :=
  ⟨h.nd, h.srt, fun k f hk => by
    obtain ⟨h1, h2, h3, h4⟩ := h.src k f hk
    exact ⟨h1, h2, (hp f h2).1 h3, h4⟩, fun k f h1 h2 h3 h4 => h.all k f h1 h2 ((hp f h2).2 h3) h4⟩
theorem R_dead {m : Sim} {f i : Nat} (hf : f ≤ i) (h : ∀ k, m.leaf k → ¬ m.R f (i - f) k) : ∀ d k, m.leaf k → ¬ m.R f (i + d - f) k
  | 0, k, hl => h k hl
  | d + 1, k, hl => fun hr => by
    obtain ⟨j, h1, h2, -⟩ := R_back (i := i + d) (by omega) hr
    exact R_dead hf h d j (takes_leaf h2) h1
theorem hit_dead {m : Sim} {f i j : Nat} (hf : f ≤ i) (hj : i ≤ j) (h : ∀ k, m.leaf k → ¬ m.R f (i - f) k) : ¬ hit m f j := by
  rintro ⟨k, h1, h2⟩
  obtain ⟨d, rfl⟩ : ∃ d, j = i + d := ⟨j - i, by omega⟩
  exact R_dead hf h d k (op6_leaf h1) h2
theorem Best.stop {m : Sim} {lo i F E : Nat} (h : Best m lo i (some (F, E))) (ht : Thr m lo i (live (some (F, E)) i) []) {n : Nat} (hn : i ≤ n) : Best m lo n (some (F, E)) := by
  have hd : ∀ f j, lo ≤ f → f ≤ F → i ≤ j → ¬ hit m f j := fun f j h1 h2 h3 => by
    have hfi : f ≤ i := by have := h.2.1; have := h.2.2.1; omega
    refine hit_dead hfi h3 fun k hl hr => ?_
    obtain ⟨g, -, hg⟩ := ht.all k f hl h1 ⟨hfi, fun F' E' e => by injection e with e; injection e with e1 e2; omega⟩ hr
    cases hg
  obtain ⟨a1, a2, a3, a4, a5, a6⟩ := h
  refine ⟨a1, a2, by omega, a4, fun j h1 h2 hh => ?_, fun f j h1 h2 h3 h4 hh => ?_⟩
  · rcases Nat.lt_or_ge j i with h5 | h5
    · exact a5 j h1 h5 hh
    · exact hd F j a1 (Nat.le_refl _) h5 hh
  · rcases Nat.lt_or_ge j i with h5 | h5
    · exact a6 f j h1 h2 h3 h5 hh
    · exact hd f j h1 (by omega) h5 hh
def Long (m : Sim) (f n : Nat) : Option Nat → Prop
  | none => ∀ j, f ≤ j → j < n → ¬ hit m f j
  | some E => f ≤ E ∧ E < n ∧ hit m f E ∧ ∀ j, E < j → j < n → ¬ hit m f j
theorem Long.unique {m : Sim} {f n : Nat} {b b' : Option Nat} (h : Long m f n b) (h' : Long m f n b') : b = b' := by
  match b, b', h, h' with
  | none, none, _, _ => rfl
  | none, some E, h, h' => exact absurd h'.2.2.1 (h E h'.1 h'.2.1)
  | some E, none, h', h => exact absurd h'.2.2.1 (h E h'.1 h'.2.1)
  | some E, some E', h, h' =>
    have e : E = E' := by
      rcases Nat.lt_trichotomy E E' with h1 | h1 | h1
      · exact absurd h'.2.2.1 (h.2.2.2 E' h1 h'.2.1)
      · exact h1
      · exact absurd h.2.2.1 (h'.2.2.2 E h1 h.2.1)
    rw [e]
def some6 (m : Sim) (T : List (Nat × Nat)) : Bool := T.any fun t => decide ((m.inst t.1).op = 6)
theorem some6_snoc (m : Sim) (T : List (Nat × Nat)) (t : Nat × Nat) : some6 m (T ++ [t]) = (some6 m T || decide ((m.inst t.1).op = 6)) := by
  unfold some6
  rw [List.any_append]
  simp
theorem Thr.hit {m : Sim} {f i : Nat} {T : List (Nat × Nat)} (h : Thr m f i (· ≤ f) T) : some6 m T = true ↔ hit m f i := by
  unfold some6
  rw [List.any_eq_true]
  constructor
  · rintro ⟨⟨k, g⟩, hm, ho⟩
    obtain ⟨-, h1, h2, h3, -⟩ := h.src k g hm
    have h2' : g ≤ f := h2
    obtain rfl : g = f := by omega
    exact ⟨k, by simpa using ho, h3⟩
  · intro hh
    obtain ⟨t, h1, h2, -⟩ := h.seen (Nat.le_refl _) (Nat.le_refl _) hh
    exact ⟨t, h1, by simpa using h2⟩
theorem Long.chkT {m : Sim} {f i : Nat} {b : Option Nat} {T : List (Nat × Nat)} (h : Long m f i b) (hi : f ≤ i) (ht : Thr m f i (· ≤ f) T) : Long m f (i + 1) (if some6 m T = true then some i else b) := by
  by_cases hs : some6 m T = true
  · rw [if_pos hs]
    exact ⟨hi, Nat.lt_succ_self _, ht.hit.1 hs, fun j h1 h2 => by omega⟩
  · rw [if_neg hs]
    have hn : ¬ Go.Proofs.Ythnpbopnpdlmnaa.hit m f i := fun hh => hs (ht.hit.2 hh)
    match b, h with
    | none, h =>
      intro j h1 h2 hh
      rcases Nat.lt_or_ge j i with h4 | h4
      · exact h j h1 h4 hh
      · obtain rfl : j = i := by omega
        exact hn hh
    | some E, ⟨a1, a2, a3, a4⟩ =>
      refine ⟨a1, by omega, a3, fun j h1 h2 hh => ?_⟩
      rcases Nat.lt_or_ge j i with h4 | h4
      · exact a4 j h1 h4 hh
      · obtain rfl : j = i := by omega
        exact hn hh
theorem Long.stop {m : Sim} {f i : Nat} {b : Option Nat} (h : Long m f i b) (hi : f ≤ i) (ht : Thr m f i (· ≤ f) []) {n : Nat} (hn : i ≤ n) : Long m f n b := by
  have hd : ∀ j, i ≤ j → ¬ hit m f j := fun j h3 => hit_dead hi h3 fun k hl hr => by
    obtain ⟨g, -, hg⟩ := ht.all k f hl (Nat.le_refl _) (Nat.le_refl _) hr
    cases hg
  match b, h with
  | none, h =>
    intro j h1 h2 hh
    rcases Nat.lt_or_ge j i with h4 | h4
    · exact h j h1 h4 hh
    · exact hd j h4 hh
  | some E, ⟨a1, a2, a3, a4⟩ =>
    refine ⟨a1, by omega, a3, fun j h1 h2 hh => ?_⟩
    rcases Nat.lt_or_ge j i with h4 | h4
    · exact a4 j h1 h4 hh
    · exact hd j h4 hh
theorem Thr.one {m : Sim} {f : Nat} {news : List Nat} (hn : news.Nodup) (hm : ∀ k, k ∈ news ↔ m.leaf k ∧ m.Reach f (· = 0) k) : Thr m f f (· ≤ f) (news.map fun k => (k, f)) := by
  have h0 : Thr m f f (· < f) [] := Thr.none m f f (fun g h1 h2 => by have h3 : g < f := h2; omega)
  have h1 := h0.start (P' := (· ≤ f)) (news := news) (fun _ _ => Iff.rfl) (fun _ _ => Iff.rfl) (Nat.le_refl _) hn (fun k => by rw [hm k]; simp)
  exact h1
theorem Thr.next1 {m : Sim} {f i : Nat} {T out : List (Nat × Nat)} (h : Thr m f i (· ≤ f) T) (hi : f ≤ i) (ho : Outs m (i + 1) (starts m i (fun _ => true) T) out) : Thr m f (i + 1) (· ≤ f) out :=
  h.next ho (fun _g hg => Nat.le_trans hg hi) (fun k g hk => ⟨fun _ => (h.src k g hk).2.2.1, fun _ => rfl⟩) (fun _ hg => hg) (fun _a _g _ hga ha => Nat.le_trans hga ha)
theorem Thr.mem {m : Sim} {f i : Nat} {T : List (Nat × Nat)} (h : Thr m f i (· ≤ f) T) (k : Nat) : k ∈ T.map Prod.fst ↔ m.leaf k ∧ m.R f (i - f) k := by
  rw [List.mem_map]
  constructor
  · rintro ⟨⟨k', g⟩, hg, rfl⟩
    obtain ⟨h0, h1, h2, h3, -⟩ := h.src k' g hg
    have h2' : g ≤ f := h2
    obtain rfl : g = f := by omega
    exact ⟨h0, h3⟩
  · rintro ⟨h1, h2⟩
    obtain ⟨g, -, hg⟩ := h.all k f h1 (Nat.le_refl _) (Nat.le_refl _) h2
    exact ⟨_, hg, rfl⟩
end Go.Proofs.Ythnpbopnpdlmnaa

/- Trees without groups are never too many parses, plainly; and the laws of composing and doubling. -/
namespace Go.Proofs.Ythnpbopnpdlmnaa
open Go.RowKit

section
variable (s : List UInt8) (lines : Bool)
end
theorem Re.err_parts {t : Re} (h : t.err = 0) : t.typed = true ∧ (∃ n, t.ranged 0 = some n) ∧ (∃ l, t.named [] = some l) ∧ t.size ≤ 600 ∧ t.groups ≤ 9 ∧ t.levels ≤ 32 := by
  unfold Re.err at h
  cases h1 : t.typed with
  | false => simp [h1] at h
  | true =>
    cases h2 : t.ranged 0 with
    | none => simp [h1, h2] at h
    | some n =>
      cases h3 : t.named [] with
      | none => simp [h1, h2, h3] at h
      | some l =>
        simp only [h1, h2, h3] at h
        have hlim : ¬ (600 < t.size ∨ 9 < t.groups ∨ 32 < t.levels) := by
          intro hx; simp [hx] at h
        exact ⟨rfl, ⟨n, rfl⟩, ⟨l, rfl⟩, by omega, by omega, by omega⟩
end Go.Proofs.Ythnpbopnpdlmnaa

/- The program of a tree matches at the ends of the tree, plainly. -/
namespace Go.Proofs.Ythnpbopnpdlmnaa
open Go.RowKit

theorem R_way {m : Sim} {a : Nat} : ∀ (n k : Nat), a + n ≤ m.s.length → m.R a n k → Way m (a, 0) (a + n, k)
  | 0, k, _, h => by
    refine Sim.Reach.least (V := fun k => Way m (a, 0) (a + 0, k)) (fun k hk => ?_) (fun k hk j hj => hk.trans (.one (.inl ⟨rfl, hj⟩))) h
    subst hk
    exact .refl m _
  | n + 1, k, hn, h => by
    refine Sim.Reach.least (V := fun k => Way m (a, 0) (a + (n + 1), k)) (fun k hk => ?_) (fun k hk j hj => hk.trans (.one (.inl ⟨rfl, hj⟩))) h
    obtain ⟨j, hj, ht, rfl⟩ := hk
    exact (R_way n j (by omega) hj).trans (.one (.inr ⟨rfl, by show a + n < _; omega, ht, rfl⟩))
theorem R_step {m : Sim} {a n k j : Nat} (h : m.R a n k) (hj : j ∈ m.eps (a + n) k) : m.R a n j := by
  cases n with
  | zero => exact Sim.Reach.step h hj
  | succ n => exact Sim.Reach.step h hj
theorem way_R {m : Sim} {a : Nat} : ∀ (N n0 k0 J K : Nat), m.R a n0 k0 → Pth m N (a + n0, k0) (J, K) → ∃ n, J = a + n ∧ m.R a n K
  | 0, n0, k0, J, K, h, hp => by
    rw [Pth] at hp
    injection hp with h1 h2
    subst h2
    exact ⟨n0, h1.symm, h⟩
  | N + 1, n0, k0, J, K, h, hp => by
    obtain ⟨⟨z1, z2⟩, hs, hp⟩ := hp
    rcases hs with ⟨h1, h2⟩ | ⟨h1, -, h2, h3⟩
    · dsimp only at h1 h2
      subst h1
      exact way_R N n0 z2 J K (R_step h h2) hp
    · dsimp only at h1 h2 h3
      subst h1; subst h3
      exact way_R N (n0 + 1) (k0 + 1) J K (Sim.Reach.base ⟨k0, h, h2, rfl⟩) hp
mutual
theorem Re.nob_of (N : Nat) : ∀ t : Re, t.ok N → t.count (· == 9) = 0 → t.nob
  | .mk p xs, h, hb => by
    rw [Re.ok] at h
    rw [Re.count] at hb
    rw [Re.nob]
    have h9 : ¬ p.op = 9 := by
      intro h9
      rw [h9] at hb
      simp at hb
    exact ⟨by omega, Re.nobs_ok N xs h.2.2.2.2 (by omega)⟩
theorem Re.nobs_ok (N : Nat) : ∀ xs : List Re, Re.oks N xs → Re.counts (· == 9) xs = 0 → Re.nobs xs
  | [], _, _ => by rw [Re.nobs]; trivial
  | x :: xs, h, hb => by
    rw [Re.oks] at h
    rw [Re.counts] at hb
    rw [Re.nobs]
    exact ⟨Re.nob_of N x h.1 (by omega), Re.nobs_ok N xs h.2 (by omega)⟩
end
theorem Re.nob_err {t : Re} (h : t.err = 0) (hb : ¬ 0 < t.backs) : t.nob :=
  Re.nob_of t.groups t (Re.ok_err h).1 (show t.backs = 0 by omega)
theorem Re.expandR_one {t : Re} (h : t.expandR.2 = 0) : t.expandR.1 = t.expand := by
  unfold Re.expandR at h ⊢
  split at h
  · rename_i he; exact absurd h he
  rename_i he
  rw [if_neg he]
  split at h
  · exact absurd (show (3 : Int) = 0 from h) (by decide)
  rename_i hw
  rw [if_neg hw]
theorem hit_E {t : Re} {lines : Bool} {s : List UInt8} (hc : t.compiled.2 = 0) {f j : Nat} (hfj : f ≤ j) (hj : j ≤ s.length) : hit ⟨t.compiled.1, lines, s⟩ f j ↔ t.E s lines f j := by
  obtain ⟨he, hx, hL, hsz, hb⟩ := Re.compiled_zero hc
  have hxe := Re.expandR_one hx
  rw [hxe] at hL hsz
  have hpt := Re.err_parts he
  have hnob := Re.nob_err he hb
  have hfine := Re.typed_fine t hpt.1
  have hokr : t.okr = true := by
    obtain ⟨n, hn⟩ := hpt.2.1
    exact Re.ranged_okr t 0 (by rw [hn]; rfl)
  have hsm := Re.expand_simp t hnob hfine
  have hfx := Re.expand_fine t hfine
  obtain ⟨m, hm⟩ : ∃ m : Sim, m = ⟨t.compiled.1, lines, s⟩ := ⟨_, rfl⟩
  rw [← hm]
  have hmL : m.L = t.expand.gen 0 ++ [Inst.of 6] := by rw [hm]; exact hL
  have hms : m.s = s := by rw [hm]
  have hml : m.lines = lines := by rw [hm]
  have hlen : (t.expand.gen 0).length = t.expand.csize := Re.gen_len _ _
  have hcode : CodeAt m 0 (t.expand.gen 0) := fun k hk => by
    rw [Nat.zero_add, Sim.inst_eq (by rw [hmL, List.length_append]; omega)]
    simp only [hmL]
    exact List.getElem_append_left hk
  have hlast : m.inst t.expand.csize = Inst.of 6 := by
    rw [Sim.inst_eq (by rw [hmL, List.length_append, hlen]; simp)]
    simp only [hmL]
    rw [List.getElem_append_right (by omega)]
    simp
  have honly : ∀ k, (m.inst k).op = 6 → k = t.expand.csize := fun k hk => by
    by_cases hkl : k < m.L.length
    · rw [Sim.inst_eq hkl] at hk
      have hkl2 : k < t.compiled.1.length := by rw [hm] at hkl; exact hkl
      have hk3 : t.compiled.1[k].op = 6 := by
        have : m.L[k] = t.compiled.1[k] := by simp only [hm]
        rw [← this]; exact hk
      have := (Re.compiled_match hc k hkl2).1 hk3
      have hcl := Re.compiled_len hc
      rw [hxe] at hcl
      omega
    · unfold Sim.inst at hk
      rw [List.getD_eq_getElem?_getD, List.getElem?_eq_none (by omega)] at hk
      exact absurd hk (by decide)
  have hEE : t.expand.E s lines f j ↔ t.E s lines f j := Re.E_expand s lines t f j hnob hfine hokr
  rw [← hEE]
  unfold hit
  constructor
  · rintro ⟨k, hk, hr⟩
    obtain rfl := honly k hk
    have hw := R_way (j - f) _ (by rw [hms]; omega) hr
    rw [show f + (j - f) = j by omega] at hw
    obtain ⟨N, hw⟩ := hw
    obtain ⟨j', N', -, h1, h2⟩ := Re.exit t.expand 0 N f j t.expand.csize hsm.1 hfx hsm.2 hcode hw (.inr (by omega))
    rw [Nat.zero_add] at h2
    have : j' = j := by
      cases N' with
      | zero => rw [Pth] at h2; injection h2
      | succ N' =>
        obtain ⟨z, hs, -⟩ := h2
        have ho : (m.inst t.expand.csize).op = 6 := by rw [hlast]; rfl
        rcases hs with ⟨-, hs⟩ | ⟨-, -, hs, -⟩
        · unfold Sim.eps at hs
          dsimp only at hs
          rw [ho] at hs
          simp at hs
        · unfold Sim.takes at hs
          dsimp only at hs
          rw [ho] at hs
          exact absurd hs.1 (by decide)
    subst this
    rw [← hms, ← hml]
    exact h1
  · intro h
    rw [← hms, ← hml] at h
    obtain ⟨N, hw⟩ := Re.enter t.expand 0 f j hsm.1 hfx hsm.2 hcode h
    rw [Nat.zero_add] at hw
    have h0 : m.R f 0 0 := Sim.Reach.base rfl
    obtain ⟨n, hn, hr⟩ := way_R N 0 0 j _ h0 hw
    refine ⟨t.expand.csize, by rw [hlast]; rfl, ?_⟩
    rw [show j - f = n by omega]
    exact hr
end Go.Proofs.Ythnpbopnpdlmnaa

/- The keep functions: all, and Search's closure. -/
namespace Go.Proofs.Ythnpbopnpdlmnaa
open Go.RowKit
attribute [local go_sem] gives givesUpon

set_option maxHeartbeats 1000000 in
theorem all_any (k f : Nat) (w : World) :
    Calls Try.prog 43 #[.agg #[.int .i64 k, .int .i64 f]] w fun e w' => e = .returned (.bool true) ∧ Below w.heap.size w w' := by
  go_enter Try.func43, Try.ntmps43
  go_wp2
  go_ret
  exact ⟨rfl, (Below.refl _ _).alloc (Nat.le_refl _) _⟩
structure BestAt (w : World) (fp bp : Nat) (b : Option (Nat × Nat)) : Prop where
  f : Row w fp [.bool b.isSome] 4
  b : Row w bp [.int .i64 (b.getD (0, 0)).1, .int .i64 (b.getD (0, 0)).2] 47
theorem BestAt.below {w w' : World} {fp bp : Nat} {b : Option (Nat × Nat)} (h : BestAt w fp bp b) (hb : Below w.heap.size w w') : BestAt w' fp bp b := ⟨h.f.below hb h.f.lt, h.b.below hb h.b.lt⟩
theorem BestAt.but {w w' : World} {fp bp : Nat} {b : Option (Nat × Nat)} {S : List Nat} (h : BestAt w fp bp b) (hb : But S w w') (h1 : fp ∉ S) (h2 : bp ∉ S) : BestAt w' fp bp b := ⟨(hb.block fp h.f.lt h1).trans h.f, (hb.block bp h.b.lt h2).trans h.b⟩
def kept (b : Option (Nat × Nat)) (t : Nat × Nat) : Bool := !b.isSome || decide (t.2 ≤ (b.getD (0, 0)).1)
set_option maxHeartbeats 1000000 in
theorem keep_any (t : Nat × Nat) (fp bp : Nat) (b : Option (Nat × Nat)) (w : World) (h : BestAt w fp bp b) :
    Calls Try.prog 44 #[.agg #[.int .i64 t.1, .int .i64 t.2], .pointer (some ⟨fp, 0, none⟩), .pointer (some ⟨bp, 0, none⟩)] w fun e w' => e = .returned (.bool (kept b t)) ∧ Below w.heap.size w w' := by
  obtain ⟨k, f⟩ := t
  have HG : Hid (Below w.heap.size w (w.alloc (.cells #[.int .i64 k, .int .i64 f] 96)) ∧ Row (w.alloc (.cells #[.int .i64 k, .int .i64 f] 96)) w.heap.size [.int .i64 k, .int .i64 f] 96) := ⟨Grow.alloc w _, Row.at w [.int .i64 k, .int .i64 f] _⟩
  match b, h with
  | none, h =>
    have hf := h.f.below HG.out.1 h.f.lt
    have q := h.f.c1
    have z := h.f.lt
    have e : kept none (k, f) = true := rfl
    rw [e]
    clear e
    clear h
    go_enter Try.func44, Try.ntmps44
    go_upto_region 1 with fail
    generalize w.alloc (.cells #[.int .i64 k, .int .i64 f] 96) = w1 at *
    have q1 := hf.c1
    go_wp2_with fail
    all_goals (try go_ret)
    all_goals exact ⟨rfl, HG.out.1⟩
  | some (F, E), h =>
    have hf := h.f.below HG.out.1 h.f.lt
    have hb := h.b.below HG.out.1 h.b.lt
    have HKE : Hid (kept (some (F, E)) (k, f) = decide (f ≤ F)) := rfl
    generalize kept (some (F, E)) (k, f) = ans at *
    clear h
    go_enter Try.func44, Try.ntmps44
    go_upto_region 1 with fail
    have q2 : (w.alloc (.cells #[.int .i64 k, .int .i64 f] 96)).cell? ⟨w.heap.size, 1, none⟩ = some (.int .i64 f) := HG.out.2.cell 1
    generalize w.alloc (.cells #[.int .i64 k, .int .i64 f] 96) = w1 at *
    have q1 := hf.c1
    have q3 : w1.cell? ⟨bp, 0, none⟩ = some (.int .i64 F) := hb.cell 0
    go_wp2_with fail
    all_goals (try go_ret)
    all_goals refine ⟨ret_bool ?_, HG.out.1⟩
    all_goals (rw [HKE.out]; try exact Bool.eq_iff_iff.2 (by simp))
end Go.Proofs.Ythnpbopnpdlmnaa
