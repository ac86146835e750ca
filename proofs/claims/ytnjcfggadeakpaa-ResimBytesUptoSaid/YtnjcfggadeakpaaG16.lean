/- The threads of a search, plainly: what they are at an offset, and what a match is. -/
import Derived.Test.YtnjcfggadeakpaaG15
namespace Go.Proofs.Ytnjcfggadeakpaa
open Go.RowKit

/-- The threads at an offset of those that began where P. -/
structure Thr (m : Sim) (lo i : Nat) (P : Nat → Prop) (T : List (Nat × Nat)) : Prop where
  nd : (T.map Prod.fst).Nodup
  srt : T.Pairwise fun p q => p.2 ≤ q.2
  src : ∀ k f, (k, f) ∈ T → m.leaf k ∧ lo ≤ f ∧ P f ∧ m.R f (i - f) k ∧ ∀ g, lo ≤ g → g < f → ¬ m.R g (i - g) k
  all : ∀ k f, m.leaf k → lo ≤ f → P f → m.R f (i - f) k → ∃ g, g ≤ f ∧ (k, g) ∈ T
theorem Thr.none (m : Sim) (lo i : Nat) {P : Nat → Prop} (hP : ∀ f, lo ≤ f → ¬ P f) : Thr m lo i P [] where
  nd := List.nodup_nil
  srt := List.Pairwise.nil
  src k f h := absurd h (by simp)
  all k f _ h1 h2 := absurd h2 (hP f h1)
theorem starts_mem {m : Sim} {i : Nat} {kp : Nat × Nat → Bool} {T : List (Nat × Nat)} {x f : Nat} : (x, f) ∈ starts m i kp T ↔ ∃ j, (j, f) ∈ T ∧ goes m i (j, f) = true ∧ kp (j, f) = true ∧ x = j + 1 := by
  unfold starts
  rw [List.mem_map]
  constructor
  · rintro ⟨⟨j, g⟩, h, e⟩
    rw [List.mem_filter] at h
    injection e with e1 e2
    subst e1 e2
    have h2 : goes m i (j, g) = true ∧ kp (j, g) = true := by simpa using h.2
    exact ⟨j, h.1, h2.1, h2.2, rfl⟩
  · rintro ⟨j, h1, h2, h3, rfl⟩
    exact ⟨(j, f), List.mem_filter.2 ⟨h1, by simp [h2, h3]⟩, rfl⟩
theorem goes_takes {m : Sim} {i j f : Nat} : goes m i (j, f) = true ↔ m.takes i j := by
  unfold goes Sim.takes
  simp
theorem starts_srt {m : Sim} {i : Nat} {kp : Nat × Nat → Bool} {T : List (Nat × Nat)} (h : T.Pairwise fun p q => p.2 ≤ q.2) : (starts m i kp T).Pairwise fun p q => p.2 ≤ q.2 := by
  unfold starts
  rw [List.pairwise_map]
  exact h.filter _
/-- What is reached behind a byte came from a thread. -/
theorem R_back {m : Sim} {g i k : Nat} (hg : g ≤ i) (h : m.R g (i + 1 - g) k) : ∃ j, m.R g (i - g) j ∧ m.takes i j ∧ m.Reach (i + 1) (· = j + 1) k := by
  rw [show i + 1 - g = (i - g) + 1 by omega] at h
  have h2 : m.Reach (g + (i - g + 1)) (fun k => ∃ j, m.R g (i - g) j ∧ m.takes (g + (i - g)) j ∧ k = j + 1) k := h
  rw [show g + (i - g + 1) = i + 1 by omega, show g + (i - g) = i by omega] at h2
  obtain ⟨x, ⟨j, h3, h4, rfl⟩, h5⟩ := h2.split
  exact ⟨j, h3, h4, h5⟩
theorem R_on {m : Sim} {g i j k : Nat} (hg : g ≤ i) (h : m.R g (i - g) j) (ht : m.takes i j) (hr : m.Reach (i + 1) (· = j + 1) k) : m.R g (i + 1 - g) k := by
  rw [show i + 1 - g = (i - g) + 1 by omega]
  show m.Reach (g + (i - g + 1)) (fun k => ∃ j, m.R g (i - g) j ∧ m.takes (g + (i - g)) j ∧ k = j + 1) k
  rw [show g + (i - g + 1) = i + 1 by omega, show g + (i - g) = i by omega]
  exact Sim.Reach.join ⟨j, h, ht, rfl⟩ hr
theorem takes_leaf {m : Sim} {i j : Nat} (h : m.takes i j) : m.leaf j := .inl h.1
theorem srt_split {S1 S2 : List (Nat × Nat)} {x f : Nat} (h : (S1 ++ (x, f) :: S2).Pairwise fun p q => p.2 ≤ q.2) {y g : Nat} (hm : (y, g) ∈ S1 ++ (x, f) :: S2) (hn : (y, g) ∉ S1) : f ≤ g := by
  rw [List.pairwise_append, List.pairwise_cons] at h
  rcases List.mem_append.1 hm with h1 | h1
  · exact absurd h1 hn
  · rcases List.mem_cons.1 h1 with h1 | h1
    · injection h1 with e1 e2; omega
    · exact h.2.1.1 _ h1
theorem srt_split2 {S1 S2 : List (Nat × Nat)} {x f : Nat} (h : (S1 ++ (x, f) :: S2).Pairwise fun p q => p.2 ≤ q.2) {y g : Nat} (hm : (y, g) ∈ S1 ++ (x, f) :: S2) (hl : g < f) : (y, g) ∈ S1 := by
  by_cases hn : (y, g) ∈ S1
  · exact hn
  · have := srt_split h hm hn
    omega
/-- The threads behind a byte. -/
theorem Thr.next {m : Sim} {lo i : Nat} {P P' : Nat → Prop} {kp : Nat × Nat → Bool} {T out : List (Nat × Nat)} (h : Thr m lo i P T) (ho : Outs m (i + 1) (starts m i kp T) out) (hle : ∀ f, P f → f ≤ i)
    (hkp : ∀ k f, (k, f) ∈ T → (kp (k, f) = true ↔ P' f)) (hPP : ∀ f, P' f → P f) (hdn : ∀ f g, lo ≤ g → g ≤ f → P' f → P' g) : Thr m lo (i + 1) P' out := by
  have hS := starts_srt (m := m) (i := i) (kp := kp) h.srt
  have hin : ∀ k f, lo ≤ f → P' f → m.R f (i + 1 - f) k → ∃ j g, g ≤ f ∧ (j + 1, g) ∈ starts m i kp T ∧ m.Reach (i + 1) (· = j + 1) k := by
    intro k f hlo hf hr
    obtain ⟨j, h1, h2, h3⟩ := R_back (hle f (hPP f hf)) hr
    obtain ⟨g, hg, hgm⟩ := h.all j f (takes_leaf h2) hlo (hPP f hf) h1
    have hlg := (h.src j g hgm).2.1
    exact ⟨j, g, hg, starts_mem.2 ⟨j, hgm, goes_takes.2 h2, (hkp j g hgm).2 (hdn f g hlg hg hf), rfl⟩, h3⟩
  refine ⟨ho.nd, ho.srt hS, fun k f hk => ?_, fun k f hl hlo hf hr => ?_⟩
  · obtain ⟨h1, S1, x, S2, hSe, hr, hno⟩ := ho.src k f hk
    have hxm : (x, f) ∈ starts m i kp T := by rw [hSe]; simp
    obtain ⟨j, hj, hg, hkj, rfl⟩ := starts_mem.1 hxm
    obtain ⟨h2, h3, h4, h5, h6⟩ := h.src j f hj
    have hf' := (hkp j f hj).1 hkj
    refine ⟨h1, h3, hf', R_on (hle f h4) h5 (goes_takes.1 hg) hr, fun g hlg hgf hrg => ?_⟩
    obtain ⟨j', g', hg', hgm', hr'⟩ := hin k g hlg (hdn f g hlg (by omega) hf') hrg
    rw [hSe] at hgm' hS
    exact hno _ (srt_split2 hS hgm' (by omega)) hr'
  · obtain ⟨j, g, hg, hgm, hr'⟩ := hin k f hlo hf hr
    obtain ⟨f', hf'⟩ := ho.all _ _ k hgm hr' hl
    obtain ⟨-, S1, x, S2, hSe, -, hno⟩ := ho.src k f' hf'
    rw [hSe] at hgm hS
    have := srt_split hS hgm (fun hn => hno _ hn hr')
    exact ⟨f', by omega, hf'⟩
theorem Outs.mem {m : Sim} {j : Nat} {S out : List (Nat × Nat)} (h : Outs m j S out) {k : Nat} (hl : m.leaf k) : k ∈ out.map Prod.fst ↔ ∃ s, s ∈ S ∧ m.Reach j (· = s.1) k := by
  rw [List.mem_map]
  constructor
  · rintro ⟨⟨k', f⟩, hk, rfl⟩
    obtain ⟨-, S1, x, S2, hS, hr, -⟩ := h.src k' f hk
    exact ⟨(x, f), by rw [hS]; simp, hr⟩
  · rintro ⟨⟨x, f⟩, hs, hr⟩
    obtain ⟨f', hf'⟩ := h.all x f k hs hr hl
    exact ⟨(k, f'), hf', rfl⟩
/-- A search begins at an offset. -/
theorem Thr.start {m : Sim} {lo i : Nat} {P P' : Nat → Prop} {T : List (Nat × Nat)} {news : List Nat} (h : Thr m lo i P T) (hP : ∀ f, lo ≤ f → (P f ↔ f < i)) (hP' : ∀ f, lo ≤ f → (P' f ↔ f ≤ i)) (hlo : lo ≤ i) (hn : news.Nodup) (hm : ∀ k, k ∈ news ↔ m.leaf k ∧ m.Reach i (· = 0) k ∧ k ∉ T.map Prod.fst) :
    Thr m lo i P' (T ++ news.map fun k => (k, i)) := by
  have e1 : (news.map fun k => (k, i)).map Prod.fst = news := by
    rw [List.map_map]
    exact List.map_id' news
  have hr0 : ∀ k, m.R i (i - i) k ↔ m.Reach i (· = 0) k := fun k => by rw [Nat.sub_self]; exact Iff.rfl
  refine ⟨?_, ?_, fun k f hk => ?_, fun k f hl hf hp hr => ?_⟩
  · rw [List.map_append, e1, List.nodup_append]
    refine ⟨h.nd, hn, fun a ha b hb => ?_⟩
    rintro rfl
    exact ((hm a).1 hb).2.2 ha
  · rw [List.pairwise_append]
    refine ⟨h.srt, ?_, fun a ha b hb => ?_⟩
    · rw [List.pairwise_map]
      exact List.pairwise_iff_forall_sublist.2 fun _ => Nat.le_refl _
    · obtain ⟨k, f⟩ := a
      obtain ⟨-, h2, h3, -⟩ := h.src k f ha
      obtain ⟨k', -, rfl⟩ := List.mem_map.1 hb
      have := (hP f h2).1 h3
      show f ≤ i
      omega
  · rcases List.mem_append.1 hk with hk | hk
    · obtain ⟨h1, h2, h3, h4, h5⟩ := h.src k f hk
      have := (hP f h2).1 h3
      exact ⟨h1, h2, (hP' f h2).2 (by omega), h4, h5⟩
    · obtain ⟨k', hk', e⟩ := List.mem_map.1 hk
      injection e with e2 e3
      subst e2 e3
      obtain ⟨h1, h2, h3⟩ := (hm k').1 hk'
      refine ⟨h1, hlo, (hP' _ hlo).2 (Nat.le_refl _), (hr0 k').2 h2, fun g hg hgi hr => h3 ?_⟩
      obtain ⟨f', -, hf'⟩ := h.all k' g h1 hg ((hP g hg).2 hgi) hr
      exact List.mem_map.2 ⟨_, hf', rfl⟩
  · have hfi := (hP' f hf).1 hp
    rcases Nat.lt_or_ge f i with h1 | h1
    · obtain ⟨g, hg, hgm⟩ := h.all k f hl hf ((hP f hf).2 h1) hr
      exact ⟨g, hg, List.mem_append.2 (.inl hgm)⟩
    · obtain rfl : f = i := by omega
      by_cases hk : k ∈ T.map Prod.fst
      · obtain ⟨⟨k', g⟩, hg, rfl⟩ := List.mem_map.1 hk
        obtain ⟨-, h2, h3, -⟩ := h.src k' g hg
        have := (hP g h2).1 h3
        exact ⟨g, by omega, List.mem_append.2 (.inl hg)⟩
      · exact ⟨f, Nat.le_refl _, List.mem_append.2 (.inr (List.mem_map.2 ⟨k, (hm k).2 ⟨hl, (hr0 k).1 hr, hk⟩, rfl⟩))⟩
theorem Thr.lt {m : Sim} (hR : rightAll m.L) {lo i : Nat} {P : Nat → Prop} {T : List (Nat × Nat)} (h : Thr m lo i P T) {t : Nat × Nat} (ht : t ∈ T) : t.1 < m.L.length := by
  obtain ⟨k, f⟩ := t
  exact Sim.R_lt hR f _ k (h.src k f ht).2.2.2.1
/-- A match from f to j. -/
def hit (m : Sim) (f j : Nat) : Prop := ∃ k, (m.inst k).op = 6 ∧ m.R f (j - f) k
/-- What a search found before an offset. -/
def Best (m : Sim) (lo i : Nat) : Option (Nat × Nat) → Prop
  | none => ∀ f j, lo ≤ f → f ≤ j → j < i → ¬ hit m f j
  | some (F, E) => lo ≤ F ∧ F ≤ E ∧ E < i ∧ hit m F E ∧ (∀ j, E < j → j < i → ¬ hit m F j) ∧ ∀ f j, lo ≤ f → f < F → f ≤ j → j < i → ¬ hit m f j
theorem Best.unique {m : Sim} {lo i : Nat} {b b' : Option (Nat × Nat)} (h : Best m lo i b) (h' : Best m lo i b') : b = b' := by
  match b, b', h, h' with
  | none, none, _, _ => rfl
  | none, some (F, E), h, h' => exact absurd h'.2.2.2.1 (h F E h'.1 h'.2.1 h'.2.2.1)
  | some (F, E), none, h', h => exact absurd h'.2.2.2.1 (h F E h'.1 h'.2.1 h'.2.2.1)
  | some (F, E), some (F', E'), h, h' =>
    obtain ⟨a1, a2, a3, a4, a5, a6⟩ := h
    obtain ⟨b1, b2, b3, b4, b5, b6⟩ := h'
    have e : F = F' := by
      rcases Nat.lt_trichotomy F F' with h1 | h1 | h1
      · exact absurd a4 (b6 F E a1 h1 a2 a3)
      · exact h1
      · exact absurd b4 (a6 F' E' b1 h1 b2 b3)
    subst e
    have e : E = E' := by
      rcases Nat.lt_trichotomy E E' with h1 | h1 | h1
      · exact absurd b4 (a5 E' h1 b3)
      · exact h1
      · exact absurd a4 (b5 E h1 a3)
    rw [e]
/-- What may still begin, or go on. -/
def live (b : Option (Nat × Nat)) (i f : Nat) : Prop := f ≤ i ∧ ∀ F E, b = some (F, E) → f ≤ F
/-- A thread that matches at an offset. -/
def chk1 (i f : Nat) : Option (Nat × Nat) → Option (Nat × Nat)
  | none => some (f, i)
  | some (F, E) => if f ≤ F then some (f, i) else some (F, E)
/-- The loop over the threads at an offset. -/
def chk (m : Sim) (i : Nat) : List (Nat × Nat) → Option (Nat × Nat) → Option (Nat × Nat)
  | [], b => b
  | t :: T, b => chk m i T (if (m.inst t.1).op = 6 then chk1 i t.2 b else b)
theorem chk_snoc (m : Sim) (i : Nat) (t : Nat × Nat) : ∀ (T : List (Nat × Nat)) (b : Option (Nat × Nat)), chk m i (T ++ [t]) b = chk m i [t] (chk m i T b)
  | [], b => rfl
  | s :: T, b => by
    show chk m i (T ++ [t]) _ = chk m i [t] (chk m i T _)
    exact chk_snoc m i t T _
theorem chk_still (m : Sim) (i F : Nat) : ∀ (T : List (Nat × Nat)), (∀ t, t ∈ T → F ≤ t.2) → chk m i T (some (F, i)) = some (F, i)
  | [], _ => rfl
  | t :: T, h => by
    have h1 := h t (by simp)
    have ih := chk_still m i F T (fun s hs => h s (by simp [hs]))
    show chk m i T (if (m.inst t.1).op = 6 then (if t.2 ≤ F then some (t.2, i) else some (F, i)) else some (F, i)) = _
    have e : (if (m.inst t.1).op = 6 then (if t.2 ≤ F then some (t.2, i) else some (F, i)) else some (F, i)) = some (F, i) := by
      split
      · split
        · have : t.2 = F := by omega
          rw [this]
        · rfl
      · rfl
    rw [e]
    exact ih
theorem chk_cases (m : Sim) (i : Nat) : ∀ (T : List (Nat × Nat)) (b : Option (Nat × Nat)), (T.Pairwise fun p q => p.2 ≤ q.2) → (∀ F E, b = some (F, E) → ∀ t, t ∈ T → t.2 ≤ F) →
    (∃ t, t ∈ T ∧ (m.inst t.1).op = 6 ∧ (∀ s, s ∈ T → (m.inst s.1).op = 6 → t.2 ≤ s.2) ∧ chk m i T b = some (t.2, i)) ∨ ((∀ t, t ∈ T → (m.inst t.1).op ≠ 6) ∧ chk m i T b = b)
  | [], b, _, _ => .inr ⟨fun t ht => (by cases ht), rfl⟩
  | t :: T, b, hs, hb => by
    rw [List.pairwise_cons] at hs
    by_cases hop : (m.inst t.1).op = 6
    · refine .inl ⟨t, by simp, hop, fun s hsm _ => ?_, ?_⟩
      · rcases List.mem_cons.1 hsm with rfl | hsm
        · exact Nat.le_refl _
        · exact hs.1 s hsm
      · show chk m i T (if (m.inst t.1).op = 6 then chk1 i t.2 b else b) = _
        rw [if_pos hop]
        have e : chk1 i t.2 b = some (t.2, i) := by
          match b, hb with
          | none, _ => rfl
          | some (F, E), hb => exact if_pos (hb F E rfl t (by simp))
        rw [e]
        exact chk_still m i t.2 T hs.1
    · have e : chk m i (t :: T) b = chk m i T b := by
        show chk m i T (if (m.inst t.1).op = 6 then chk1 i t.2 b else b) = _
        rw [if_neg hop]
      rw [e]
      rcases chk_cases m i T b hs.2 (fun F E hbe s hsm => hb F E hbe s (by simp [hsm])) with ⟨s, h1, h2, h3, h4⟩ | ⟨h1, h2⟩
      · refine .inl ⟨s, by simp [h1], h2, fun s' hs' ho => ?_, h4⟩
        rcases List.mem_cons.1 hs' with rfl | hs'
        · exact absurd ho hop
        · exact h3 s' hs' ho
      · refine .inr ⟨fun s hsm => ?_, h2⟩
        rcases List.mem_cons.1 hsm with rfl | hsm
        · exact hop
        · exact h1 s hsm
theorem op6_leaf {m : Sim} {k : Nat} (h : (m.inst k).op = 6) : m.leaf k := .inr h
/-- A match is seen by a thread. -/
theorem Thr.seen {m : Sim} {lo i : Nat} {P : Nat → Prop} {T : List (Nat × Nat)} (h : Thr m lo i P T) {f : Nat} (hlo : lo ≤ f) (hf : P f) (hh : hit m f i) : ∃ t, t ∈ T ∧ (m.inst t.1).op = 6 ∧ t.2 ≤ f := by
  obtain ⟨k, h1, h2⟩ := hh
  obtain ⟨g, hg, hgm⟩ := h.all k f (op6_leaf h1) hlo hf h2
  exact ⟨(k, g), hgm, h1, hg⟩
theorem Best.chk {m : Sim} {lo i : Nat} {b : Option (Nat × Nat)} {T : List (Nat × Nat)} (h : Best m lo i b) (ht : Thr m lo i (live b i) T) : Best m lo (i + 1) (chk m i T b) ∧ ∀ f, live (Go.Proofs.Ytnjcfggadeakpaa.chk m i T b) i f → live b i f := by
  have hlab : ∀ F E, b = some (F, E) → ∀ t, t ∈ T → t.2 ≤ F := fun F E e t hm => by
    obtain ⟨k, f⟩ := t
    exact (ht.src k f hm).2.2.1.2 F E e
  rcases chk_cases m i T b ht.srt hlab with ⟨⟨k, f⟩, hm, hop, hle, e⟩ | ⟨hno, e⟩
  · rw [e]
    obtain ⟨-, h1, h2, h3, -⟩ := ht.src k f hm
    refine ⟨⟨h1, h2.1, Nat.lt_succ_self _, ⟨k, hop, h3⟩, fun j h4 h5 => by omega, fun g j hg hgf hgj hj hh => ?_⟩, fun g hg => ⟨hg.1, fun F E eb => ?_⟩⟩
    · rcases Nat.lt_or_ge j i with h4 | h4
      · match b, h, hlab with
        | none, h, _ => exact h g j hg hgj h4 hh
        | some (F, E), h, hlab => exact h.2.2.2.2.2 g j hg (by have : f ≤ F := hlab F E rfl _ hm; omega) hgj h4 hh
      · obtain rfl : j = i := by omega
        obtain ⟨s, hs, hso, hsg⟩ := ht.seen hg ⟨hgj, fun F E eb => by have := h2.2 F E eb; omega⟩ hh
        have : f ≤ s.2 := hle s hs hso
        omega
    · have h5 := hg.2 f i rfl
      have h6 := h2.2 F E eb
      omega
  · rw [e]
    refine ⟨?_, fun f hf => hf⟩
    have hn : ∀ f, lo ≤ f → live b i f → ¬ hit m f i := fun f hlo hl hh => by
      obtain ⟨s, hs, hso, -⟩ := ht.seen hlo hl hh
      exact hno s hs hso
    match b, h, hn with
    | none, h, hn =>
      intro f j h1 h2 h3 hh
      rcases Nat.lt_or_ge j i with h4 | h4
      · exact h f j h1 h2 h4 hh
      · obtain rfl : j = i := by omega
        exact hn f h1 ⟨h2, fun F E e => by cases e⟩ hh
    | some (F, E), ⟨a1, a2, a3, a4, a5, a6⟩, hn =>
      refine ⟨a1, a2, by omega, a4, fun j h1 h2 hh => ?_, fun f j h1 h2 h3 h4 hh => ?_⟩
      · rcases Nat.lt_or_ge j i with h5 | h5
        · exact a5 j h1 h5 hh
        · obtain rfl : j = i := by omega
          exact hn F a1 ⟨by omega, fun F' E' e => by injection e with e; injection e with e1 e2; omega⟩ hh
      · rcases Nat.lt_or_ge j i with h5 | h5
        · exact a6 f j h1 h2 h3 h5 hh
        · obtain rfl : j = i := by omega
          exact hn f h1 ⟨h3, fun F' E' e => by injection e with e; injection e with e1 e2; omega⟩ hh
theorem Thr.congr {m : Sim} {lo i : Nat} {P P' : Nat → Prop} {T : List (Nat × Nat)} (h : Thr m lo i P T) (hp : ∀ f, lo ≤ f → (P f ↔ P' f)) : Thr m lo i P' T :=
  ⟨h.nd, h.srt, fun k f hk => by
    obtain ⟨h1, h2, h3, h4⟩ := h.src k f hk
    exact ⟨h1, h2, (hp f h2).1 h3, h4⟩, fun k f h1 h2 h3 h4 => h.all k f h1 h2 ((hp f h2).2 h3) h4⟩
/-- Where no thread is left none comes again. -/
theorem R_dead {m : Sim} {f i : Nat} (hf : f ≤ i) (h : ∀ k, m.leaf k → ¬ m.R f (i - f) k) : ∀ d k, m.leaf k → ¬ m.R f (i + d - f) k
  | 0, k, hl => h k hl
  | d + 1, k, hl => fun hr => by
    obtain ⟨j, h1, h2, -⟩ := R_back (i := i + d) (by omega) hr
    exact R_dead hf h d j (takes_leaf h2) h1
theorem hit_dead {m : Sim} {f i j : Nat} (hf : f ≤ i) (hj : i ≤ j) (h : ∀ k, m.leaf k → ¬ m.R f (i - f) k) : ¬ hit m f j := by
  rintro ⟨k, h1, h2⟩
  obtain ⟨d, rfl⟩ : ∃ d, j = i + d := ⟨j - i, by omega⟩
  exact R_dead hf h d k (op6_leaf h1) h2
theorem Best.stop {m : Sim} {lo i F E : Nat} (h : Best m lo i (some (F, E))) (ht : Thr m lo i (live (some (F, E)) i) []) {n : Nat} (hn : i ≤ n) : Best m lo n (some (F, E)) := by
  have hd : ∀ f j, lo ≤ f → f ≤ F → i ≤ j → ¬ hit m f j := fun f j h1 h2 h3 => by
    have hfi : f ≤ i := by have := h.2.1; have := h.2.2.1; omega
    refine hit_dead hfi h3 fun k hl hr => ?_
    obtain ⟨g, -, hg⟩ := ht.all k f hl h1 ⟨hfi, fun F' E' e => by injection e with e; injection e with e1 e2; omega⟩ hr
    cases hg
  obtain ⟨a1, a2, a3, a4, a5, a6⟩ := h
  refine ⟨a1, a2, by omega, a4, fun j h1 h2 hh => ?_, fun f j h1 h2 h3 h4 hh => ?_⟩
  · rcases Nat.lt_or_ge j i with h5 | h5
    · exact a5 j h1 h5 hh
    · exact hd F j a1 (Nat.le_refl _) h5 hh
  · rcases Nat.lt_or_ge j i with h5 | h5
    · exact a6 f j h1 h2 h3 h5 hh
    · exact hd f j h1 (by omega) h5 hh
/-- The greatest end of a match from an offset. -/
def Long (m : Sim) (f n : Nat) : Option Nat → Prop
  | none => ∀ j, f ≤ j → j < n → ¬ hit m f j
  | some E => f ≤ E ∧ E < n ∧ hit m f E ∧ ∀ j, E < j → j < n → ¬ hit m f j
theorem Long.unique {m : Sim} {f n : Nat} {b b' : Option Nat} (h : Long m f n b) (h' : Long m f n b') : b = b' := by
  match b, b', h, h' with
  | none, none, _, _ => rfl
  | none, some E, h, h' => exact absurd h'.2.2.1 (h E h'.1 h'.2.1)
  | some E, none, h', h => exact absurd h'.2.2.1 (h E h'.1 h'.2.1)
  | some E, some E', h, h' =>
    have e : E = E' := by
      rcases Nat.lt_trichotomy E E' with h1 | h1 | h1
      · exact absurd h'.2.2.1 (h.2.2.2 E' h1 h'.2.1)
      · exact h1
      · exact absurd h.2.2.1 (h'.2.2.2 E h1 h.2.1)
    rw [e]
/-- Does a thread match? -/
def some6 (m : Sim) (T : List (Nat × Nat)) : Bool := T.any fun t => decide ((m.inst t.1).op = 6)
theorem some6_snoc (m : Sim) (T : List (Nat × Nat)) (t : Nat × Nat) : some6 m (T ++ [t]) = (some6 m T || decide ((m.inst t.1).op = 6)) := by
  unfold some6
  rw [List.any_append]
  simp
theorem Thr.hit {m : Sim} {f i : Nat} {T : List (Nat × Nat)} (h : Thr m f i (· ≤ f) T) : some6 m T = true ↔ hit m f i := by
  unfold some6
  rw [List.any_eq_true]
  constructor
  · rintro ⟨⟨k, g⟩, hm, ho⟩
    obtain ⟨-, h1, h2, h3, -⟩ := h.src k g hm
    have h2' : g ≤ f := h2
    obtain rfl : g = f := by omega
    exact ⟨k, by simpa using ho, h3⟩
  · intro hh
    obtain ⟨t, h1, h2, -⟩ := h.seen (Nat.le_refl _) (Nat.le_refl _) hh
    exact ⟨t, h1, by simpa using h2⟩
theorem Long.chk {m : Sim} {f i : Nat} {b : Option Nat} {T : List (Nat × Nat)} (h : Long m f i b) (hi : f ≤ i) (ht : Thr m f i (· ≤ f) T) : Long m f (i + 1) (if some6 m T = true then some i else b) := by
  by_cases hs : some6 m T = true
  · rw [if_pos hs]
    exact ⟨hi, Nat.lt_succ_self _, ht.hit.1 hs, fun j h1 h2 => by omega⟩
  · rw [if_neg hs]
    have hn : ¬ Go.Proofs.Ytnjcfggadeakpaa.hit m f i := fun hh => hs (ht.hit.2 hh)
    match b, h with
    | none, h =>
      intro j h1 h2 hh
      rcases Nat.lt_or_ge j i with h4 | h4
      · exact h j h1 h4 hh
      · obtain rfl : j = i := by omega
        exact hn hh
    | some E, ⟨a1, a2, a3, a4⟩ =>
      refine ⟨a1, by omega, a3, fun j h1 h2 hh => ?_⟩
      rcases Nat.lt_or_ge j i with h4 | h4
      · exact a4 j h1 h4 hh
      · obtain rfl : j = i := by omega
        exact hn hh
theorem Long.stop {m : Sim} {f i : Nat} {b : Option Nat} (h : Long m f i b) (hi : f ≤ i) (ht : Thr m f i (· ≤ f) []) {n : Nat} (hn : i ≤ n) : Long m f n b := by
  have hd : ∀ j, i ≤ j → ¬ hit m f j := fun j h3 => hit_dead hi h3 fun k hl hr => by
    obtain ⟨g, -, hg⟩ := ht.all k f hl (Nat.le_refl _) (Nat.le_refl _) hr
    cases hg
  match b, h with
  | none, h =>
    intro j h1 h2 hh
    rcases Nat.lt_or_ge j i with h4 | h4
    · exact h j h1 h4 hh
    · exact hd j h4 hh
  | some E, ⟨a1, a2, a3, a4⟩ =>
    refine ⟨a1, by omega, a3, fun j h1 h2 hh => ?_⟩
    rcases Nat.lt_or_ge j i with h4 | h4
    · exact a4 j h1 h4 hh
    · exact hd j h4 hh
/-- One search alone. -/
theorem Thr.one {m : Sim} {f : Nat} {news : List Nat} (hn : news.Nodup) (hm : ∀ k, k ∈ news ↔ m.leaf k ∧ m.Reach f (· = 0) k) : Thr m f f (· ≤ f) (news.map fun k => (k, f)) := by
  have h0 : Thr m f f (· < f) [] := Thr.none m f f (fun g h1 h2 => by have h3 : g < f := h2; omega)
  have h1 := h0.start (P' := (· ≤ f)) (news := news) (fun _ _ => Iff.rfl) (fun _ _ => Iff.rfl) (Nat.le_refl _) hn (fun k => by rw [hm k]; simp)
  exact h1
theorem Thr.next1 {m : Sim} {f i : Nat} {T out : List (Nat × Nat)} (h : Thr m f i (· ≤ f) T) (hi : f ≤ i) (ho : Outs m (i + 1) (starts m i (fun _ => true) T) out) : Thr m f (i + 1) (· ≤ f) out :=
  h.next ho (fun _g hg => Nat.le_trans hg hi) (fun k g hk => ⟨fun _ => (h.src k g hk).2.2.1, fun _ => rfl⟩) (fun _ hg => hg) (fun _a _g _ hga ha => Nat.le_trans hga ha)
/-- The threads of one search. -/
theorem Thr.mem {m : Sim} {f i : Nat} {T : List (Nat × Nat)} (h : Thr m f i (· ≤ f) T) (k : Nat) : k ∈ T.map Prod.fst ↔ m.leaf k ∧ m.R f (i - f) k := by
  rw [List.mem_map]
  constructor
  · rintro ⟨⟨k', g⟩, hg, rfl⟩
    obtain ⟨h0, h1, h2, h3, -⟩ := h.src k' g hg
    have h2' : g ≤ f := h2
    obtain rfl : g = f := by omega
    exact ⟨h0, h3⟩
  · rintro ⟨h1, h2⟩
    obtain ⟨g, -, hg⟩ := h.all k f h1 (Nat.le_refl _) (Nat.le_refl _) h2
    exact ⟨_, hg, rfl⟩
end Go.Proofs.Ytnjcfggadeakpaa

/- What Threads returns, plainly: the instructions that are reached, in ascending order. -/
namespace Go.Proofs.Ytnjcfggadeakpaa
open Go.RowKit

def IsTh (m : Sim) (at_ d : Int) (ts : List Nat) : Prop :=
  ts.Pairwise (· < ·) ∧ ∀ k, k ∈ ts ↔ rightAll m.L ∧ 0 ≤ at_ ∧ at_ ≤ d ∧ d ≤ m.s.length ∧ m.leaf k ∧ m.R at_.toNat (d.toNat - at_.toNat) k
theorem asc_unique : ∀ (A B : List Nat), A.Pairwise (· < ·) → B.Pairwise (· < ·) → (∀ k, k ∈ A ↔ k ∈ B) → A = B
  | [], [], _, _, _ => rfl
  | [], b :: B, _, _, h => absurd ((h b).2 (by simp)) (by simp)
  | a :: A, [], _, _, h => absurd ((h a).1 (by simp)) (by simp)
  | a :: A, b :: B, h1, h2, h => by
    rw [List.pairwise_cons] at h1 h2
    have e : a = b := by
      have ha := (h a).1 (by simp)
      have hb := (h b).2 (by simp)
      rcases List.mem_cons.1 ha with ha | ha
      · exact ha
      · rcases List.mem_cons.1 hb with hb | hb
        · exact hb.symm
        · have := h2.1 a ha
          have := h1.1 b hb
          omega
    subst e
    rw [asc_unique A B h1.2 h2.2 fun k => ?_]
    constructor
    · intro hk
      have := h1.1 k hk
      rcases List.mem_cons.1 ((h k).1 (by simp [hk])) with e | e
      · omega
      · exact e
    · intro hk
      have := h2.1 k hk
      rcases List.mem_cons.1 ((h k).2 (by simp [hk])) with e | e
      · omega
      · exact e
theorem IsTh.unique {m : Sim} {at_ d : Int} {A B : List Nat} (h : IsTh m at_ d A) (h' : IsTh m at_ d B) : A = B := asc_unique A B h.1 h'.1 fun k => (h.2 k).trans (h'.2 k).symm
theorem IsTh.nil {m : Sim} {at_ d : Int} (h : ¬ rightAll m.L ∨ at_ < 0 ∨ (m.s.length : Int) < d ∨ d < at_) : IsTh m at_ d [] := by
  refine ⟨List.Pairwise.nil, fun k => ⟨fun hk => (by cases hk), ?_⟩⟩
  rintro ⟨h1, h2, h3, h4, -⟩
  rcases h with h | h | h | h
  · exact absurd h1 h
  all_goals omega
/-- Sorted numbers. -/
theorem sorted_nat (K : List Nat) (hn : K.Nodup) : ∃ ts : List Nat, ((K.map fun (k : Nat) => (k : Int)).mergeSort fun x y => decide (x ≤ y)) = ts.map (fun (k : Nat) => (k : Int)) ∧ ts.Pairwise (· < ·) ∧ (∀ k, k ∈ ts ↔ k ∈ K) ∧ ts.length = K.length := by
  have hp : ((K.map fun (k : Nat) => (k : Int)).mergeSort fun x y => decide (x ≤ y)).Perm (K.map fun (k : Nat) => (k : Int)) := List.mergeSort_perm _ _
  have hs := List.pairwise_mergeSort (le := fun (x y : Int) => decide (x ≤ y)) (fun a b c h1 h2 => by simp only [decide_eq_true_eq] at h1 h2 ⊢; omega) (fun a b => by simp only [Bool.or_eq_true, decide_eq_true_eq]; omega) (K.map fun (k : Nat) => (k : Int))
  have hnd : (K.map fun (k : Nat) => (k : Int)).Nodup := by
    rw [List.nodup_iff_pairwise_ne, List.pairwise_map]
    exact List.Pairwise.imp (fun h e => h (by omega)) (List.nodup_iff_pairwise_ne.1 hn)
  have hnm := hp.nodup_iff.2 hnd
  generalize ((K.map fun (k : Nat) => (k : Int)).mergeSort fun x y => decide (x ≤ y)) = ms at *
  have h0 : ∀ x, x ∈ ms → 0 ≤ x := fun x hx => by
    obtain ⟨k, -, rfl⟩ := List.mem_map.1 (hp.mem_iff.1 hx)
    omega
  have e : ms = (ms.map Int.toNat).map fun (k : Nat) => (k : Int) := by
    rw [List.map_map]
    conv => lhs; rw [← List.map_id ms]
    refine List.map_congr_left fun x hx => ?_
    have := h0 x hx
    show x = ((x.toNat : Nat) : Int)
    omega
  refine ⟨ms.map Int.toNat, e, ?_, fun k => ?_, by rw [List.length_map, hp.length_eq, List.length_map]⟩
  · rw [List.pairwise_map]
    refine List.Pairwise.imp_of_mem (fun {x y} hx hy h => ?_) (hs.and (List.nodup_iff_pairwise_ne.1 hnm))
    have h1 := h0 x hx
    have h2 := h0 y hy
    have h3 : x ≤ y := by simpa using h.1
    have h4 := h.2
    omega
  · rw [List.mem_map]
    constructor
    · rintro ⟨x, hx, rfl⟩
      obtain ⟨k, hk, rfl⟩ := List.mem_map.1 (hp.mem_iff.1 hx)
      exact hk
    · intro hk
      exact ⟨(k : Int), hp.mem_iff.2 (List.mem_map.2 ⟨k, hk, rfl⟩), rfl⟩
end Go.Proofs.Ytnjcfggadeakpaa
