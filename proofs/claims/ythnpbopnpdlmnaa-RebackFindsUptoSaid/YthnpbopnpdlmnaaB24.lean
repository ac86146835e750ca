/- A tree that Check lets pass. -/
import Derived.Test.YthnpbopnpdlmnaaB04
import Derived.Test.YthnpbopnpdlmnaaB23
import Derived.Test.YthnpbopnpdlmnaaB08
import Derived.Test.YthnpbopnpdlmnaaB11
namespace Go.Proofs.Ythnpbopnpdlmnaa
open Go.RowKit

theorem shaped_ok {p : Pay} {n : Nat} (h : p.shaped n = true) : (1 ≤ p.op ∧ p.op ≤ 9) ∧ (p.op = 3 ∨ p.op = 4 → 2 ≤ n) ∧ (p.op = 5 ∨ p.op = 6 → n = 1) := by
  unfold Pay.shaped at h
  split at h
  · rename_i h1; refine ⟨by omega, fun h => by omega, fun h => by omega⟩
  split at h
  · rename_i h1; refine ⟨by omega, fun h => by omega, fun h => by omega⟩
  split at h
  · rename_i h1
    simp only [Bool.and_eq_true, decide_eq_true_eq] at h
    refine ⟨by omega, fun _ => h.1.1.1, fun h => by omega⟩
  split at h
  · rename_i h1
    simp only [Bool.and_eq_true, decide_eq_true_eq] at h
    refine ⟨by omega, fun h => by omega, fun _ => h.1.1⟩
  split at h
  · rename_i h1
    simp only [Bool.and_eq_true, decide_eq_true_eq] at h
    refine ⟨by omega, fun h => by omega, fun _ => h.1.1⟩
  split at h
  · rename_i h1; refine ⟨by omega, fun h => by omega, fun h => by omega⟩
  · cases h
mutual
theorem Re.ok_aux (N : Nat) : ∀ (t : Re) (b n : Nat) (l l' : List Int), t.typed = true → t.ranged b = some n → t.named l = some l' → n ≤ N → (∀ g, g ∈ l → 1 ≤ g ∧ g ≤ N) → t.size ≤ 1000000 → t.ok N ∧ (∀ g, g ∈ l' → 1 ≤ g ∧ g ≤ N)
  | .mk p xs, b, n, l, l', h1, h2, h3, hn, hl, hs => by
    rw [Re.typed, Bool.and_eq_true] at h1
    rw [Re.ranged] at h2
    rw [Re.named] at h3
    rw [Re.size_mk] at hs
    obtain ⟨s1, s2, s3⟩ := shaped_ok h1.1
    split at h2
    · cases h2
    split at h3
    · cases h3
    rename_i h5 h9
    have hx : ∀ (b' : Nat), Re.rangeds xs b' = some n → (p.op = 6 → p.gr = b' ∧ 1 ≤ b') → (Re.mk p xs).ok N ∧ (∀ g, g ∈ l' → 1 ≤ g ∧ g ≤ N) := by
      intro b' hr hb'
      have hg := Re.rangeds_groups xs b' n hr
      cases hm : Re.nameds xs l with
      | none => rw [hm] at h3; cases h3
      | some l2 =>
        rw [hm] at h3
        obtain ⟨k1, k2⟩ := Re.oks_aux N xs b' n l l2 h1.2 hr hm hn hl (by omega)
        refine ⟨?_, ?_⟩
        · rw [Re.ok]
          refine ⟨⟨s1, by omega⟩, fun h => ?_, fun h => ?_, fun h => ?_, k1⟩
          · have := s2 h; rintro rfl; simp at this
          · have := s3 h
            match xs, this with
            | [x], _ => exact ⟨x, rfl⟩
          · rcases h with h | h
            · have := hb' h; omega
            · have : p.gr ∈ l := by
                by_cases hm : p.gr ∈ l
                · exact hm
                · exact absurd ⟨h, hm⟩ h9
              exact hl _ this
        · intro g hgm
          by_cases h6 : p.op = 6
          · simp only [h6, if_true] at h3
            have h3' := Option.some.inj h3
            subst h3'
            rcases List.mem_append.1 hgm with hgm | hgm
            · exact k2 g hgm
            · have := List.mem_singleton.1 hgm; have := hb' h6; omega
          · simp only [h6, if_false] at h3
            have h3' := Option.some.inj h3
            subst h3'
            exact k2 g hgm
    split at h2
    · rename_i h6
      split at h2
      · rename_i hgr
        exact hx (b + 1) h2 (fun _ => ⟨by omega, by omega⟩)
      · cases h2
    · rename_i h6
      exact hx b h2 (fun h => absurd h h6)
theorem Re.oks_aux (N : Nat) : ∀ (xs : List Re) (b n : Nat) (l l' : List Int), Re.typeds xs = true → Re.rangeds xs b = some n → Re.nameds xs l = some l' → n ≤ N → (∀ g, g ∈ l → 1 ≤ g ∧ g ≤ N) → Re.sizes xs ≤ 1000000 → Re.oks N xs ∧ (∀ g, g ∈ l' → 1 ≤ g ∧ g ≤ N)
  | [], b, n, l, l', h1, h2, h3, hn, hl, hs => by
    rw [Re.nameds] at h3
    have := Option.some.inj h3
    subst this
    exact ⟨by rw [Re.oks]; trivial, hl⟩
  | t :: ts, b, n, l, l', h1, h2, h3, hn, hl, hs => by
    rw [Re.typeds, Bool.and_eq_true] at h1
    rw [Re.rangeds] at h2
    rw [Re.nameds] at h3
    have hs2 : t.size + Re.sizes ts ≤ 1000000 := hs
    cases hr : t.ranged b with
    | none => rw [hr] at h2; cases h2
    | some b2 =>
      rw [hr] at h2
      cases hm : t.named l with
      | none => rw [hm] at h3; cases h3
      | some l2 =>
        rw [hm] at h3
        have hb2 := Re.rangeds_groups ts b2 n h2
        obtain ⟨k1, k2⟩ := Re.ok_aux N t b b2 l l2 h1.1 hr hm (by omega) hl (by omega)
        obtain ⟨k3, k4⟩ := Re.oks_aux N ts b2 n l2 l' h1.2 h2 h3 hn k2 (by omega)
        exact ⟨by rw [Re.oks]; exact ⟨k1, k3⟩, k4⟩
end
theorem Re.ok_err {t : Re} (h : t.err = 0) : t.ok t.groups ∧ t.groups ≤ 9 ∧ t.size ≤ 600 := by
  unfold Re.err at h
  cases h1 : t.typed with
  | false => simp [h1] at h
  | true =>
    cases h2 : t.ranged 0 with
    | none => simp [h1, h2] at h
    | some n =>
      cases h3 : t.named [] with
      | none => simp [h1, h2, h3] at h
      | some l =>
        simp only [h1, h2, h3] at h
        have hlim : ¬ (600 < t.size ∨ 9 < t.groups ∨ 32 < t.levels) := by
          intro hx; simp [hx] at h
        have hg := Re.ranged_groups t 0 n h2
        exact ⟨(Re.ok_aux t.groups t 0 n [] l h1 h2 h3 (by omega) (fun g hg => by cases hg) (by omega)).1, by omega, by omega⟩

/-- The error of a tree and an offset. -/
def chk (t : Re) (s : ByteArray) (at_ : Int) : Int := if t.err ≠ 0 then t.err else if at_ < 0 ∨ (s.size : Int) < at_ then 2 else 0
theorem chk_zero {t : Re} {s : ByteArray} {at_ : Int} (h : chk t s at_ = 0) : t.err = 0 ∧ 0 ≤ at_ ∧ at_ ≤ s.size := by
  unfold chk at h
  by_cases h1 : t.err ≠ 0
  · rw [if_pos h1] at h; exact absurd h h1
  · rw [if_neg h1] at h
    by_cases h2 : at_ < 0 ∨ (s.size : Int) < at_
    · rw [if_pos h2] at h; cases h
    · exact ⟨by omega, by omega, by omega⟩
end Go.Proofs.Ythnpbopnpdlmnaa

/- The reference of the parses: trees without parts. -/
namespace Go.Proofs.Ythnpbopnpdlmnaa
open Go.RowKit
attribute [local go_sem] gives givesUpon

set_option maxRecDepth 100000 in
set_option maxHeartbeats 8000000 in
theorem rpar1 (wb : World) (N : Nat) (hN : N ≤ 9) (s : ByteArray) (hs : s.size ≤ 1000000) (lines : Bool) (p : Pay) (xs : List Re) (hop : p.op = 1) : RPar wb N s lines (.mk p xs) := by
  intro w cs sa sc sp i hIn hok hsz hbw hsp hspo hi
  rw [Re.In] at hIn
  obtain ⟨ad, cap, rfl, hwf, -⟩ := hIn
  simp only [Pay.cells]
  have hT : Two w s lines [.int .i64 p.op, .int .u64 p.set.a, .int .u64 p.set.b, .int .u64 p.set.c, .int .u64 p.set.d, .int .i64 p.lo, .int .i64 p.hi, .int .i64 p.gr, .slice ad xs.length cap] ((w.alloc (.cells #[.string s, .bool lines] 75)).alloc (.cells #[.int .i64 p.op, .int .u64 p.set.a, .int .u64 p.set.b, .int .u64 p.set.c, .int .u64 p.set.d, .int .i64 p.lo, .int .i64 p.hi, .int .i64 p.gr, .slice ad xs.length cap] 28)) := ⟨(Row.new rfl).alloc _, Row.new (by simp), ((Below.refl _ _).alloc (Nat.le_refl _) _).alloc (by simp) _⟩
  have HT := hid hT
  have HS := hid (hsp.below hT.2.2)
  have q0 := hT.1.two9
  have q1 := hT.2.1.c9
  have HSO := hid hspo
  have HO := hid hop
  have HWF := hid hwf
  have hsl : s.data.toList.length = s.size := by rw [Array.length_toList]; rfl
  have HSL := hid hsl
  rw [Re.ok] at hok
  have hgr := hok.2.2.2.1
  have hspl : sp.length ≤ 9 := by have := hspo.1; omega
  clear hT hsp hspo hsl hok hwf
  have HR : Hid (fin s.size [(i, sp)] = parses s.data.toList lines (.mk p xs) i sp) := by show _ = _; rw [parses, if_pos hop, fin_one (by exact hi)]
  clear hop
  have e1 : (p.op == 1) = true := by rw [HO.out]; decide
  go_enter Try.func31, Try.ntmps31
  go_wp2_with fail
  refine (radd_any _ w.heap.size (.slice none 0 0) (.slice sa sp.length sc) [] i sp (OwnP.nil _ _) HS.out (by simp) HT.out.2.2.size (fun q hq => by have := List.mem_singleton.1 hq; subst this; exact ⟨by show sp.length ≤ 9; omega, by show i ≤ _; omega⟩)).mono ?_
  rintro e w1 ⟨a1, c1, rfl, ho, hg, -⟩
  have hT1 := HT.out.later (grown_nil hg)
  have HT1 := hid hT1
  have HO1 := hid ho.psq
  have q2 := hT1.1.two9
  have q3 := hT1.2.1.c9
  clear ho hg hT1
  have hl1 : (addP [] (i, sp)).length = 1 := rfl
  rw [hl1] at HO1 ⊢
  go_wp2_with fail
  refine (rdone_any _ _ _ [(i, sp)] [(i, sp)] s lines rfl HO1.out (by simp) hs).mono ?_
  rintro e w2 hr
  obtain ⟨a2, n2, c2, b2, rfl, HRR⟩ := hr.on HT1.out.2.2 HR.out
  clear hr
  go_wp2_with fail
  go_ret2
  exact HRR.out
end Go.Proofs.Ythnpbopnpdlmnaa

/- The reference of the parses: trees without parts. -/
namespace Go.Proofs.Ythnpbopnpdlmnaa
open Go.RowKit
attribute [local go_sem] gives givesUpon

set_option maxRecDepth 100000 in
set_option maxHeartbeats 8000000 in
theorem rpar2 (wb : World) (N : Nat) (hN : N ≤ 9) (s : ByteArray) (hs : s.size ≤ 1000000) (lines : Bool) (p : Pay) (xs : List Re) (hop : p.op = 2) : RPar wb N s lines (.mk p xs) := by
  intro w cs sa sc sp i hIn hok hsz hbw hsp hspo hi
  rw [Re.In] at hIn
  obtain ⟨ad, cap, rfl, hwf, -⟩ := hIn
  simp only [Pay.cells]
  have hT : Two w s lines [.int .i64 p.op, .int .u64 p.set.a, .int .u64 p.set.b, .int .u64 p.set.c, .int .u64 p.set.d, .int .i64 p.lo, .int .i64 p.hi, .int .i64 p.gr, .slice ad xs.length cap] ((w.alloc (.cells #[.string s, .bool lines] 75)).alloc (.cells #[.int .i64 p.op, .int .u64 p.set.a, .int .u64 p.set.b, .int .u64 p.set.c, .int .u64 p.set.d, .int .i64 p.lo, .int .i64 p.hi, .int .i64 p.gr, .slice ad xs.length cap] 28)) := ⟨(Row.new rfl).alloc _, Row.new (by simp), ((Below.refl _ _).alloc (Nat.le_refl _) _).alloc (by simp) _⟩
  have HT := hid hT
  have HS := hid (hsp.below hT.2.2)
  have q0 := hT.1.two9
  have q1 := hT.2.1.c9
  have HSO := hid hspo
  have HO := hid hop
  have HWF := hid hwf
  have hsl : s.data.toList.length = s.size := by rw [Array.length_toList]; rfl
  have HSL := hid hsl
  rw [Re.ok] at hok
  have hgr := hok.2.2.2.1
  have hspl : sp.length ≤ 9 := by have := hspo.1; omega
  clear hT hsp hspo hsl hok hwf
  have HPA : Hid (parses s.data.toList lines (.mk p xs) i sp = some (if decide (i < s.data.toList.length) && p.set.has (byteAt s.data.toList i).toNat then [(i + 1, sp)] else [])) := by show _ = _; rw [parses]; simp [hop]
  clear hop
  have e1 : (p.op == 1) = false := by rw [HO.out]; decide
  have e2 : (p.op == 2) = true := by rw [HO.out]; decide
  have HC := hid (fun (x : World) (hx : Grow (((w.alloc (.cells #[.string s, .bool lines] 75)).alloc (.cells #[.int .i64 p.op, .int .u64 p.set.a, .int .u64 p.set.b, .int .u64 p.set.c, .int .u64 p.set.d, .int .i64 p.lo, .int .i64 p.hi, .int .i64 p.gr, .slice ad xs.length cap] 28))).drew x) => (⟨((HT.out.later (grow_below hx)).1).two9, ((HT.out.later (grow_below hx)).2.1).c9⟩ : _ ∧ _))
  rw [HSL.out] at HPA
  by_cases hil : i < s.size
  · have hj : (i : Int) < s.size := by omega
    have hbt : byteAt s.data.toList i = s[i] := byteAt_eq hil
    have hw1 : IntKind.i64.wrap ((i : Int) + 1) = ((i + 1 : Nat) : Int) := by rw [IntKind.wrap_i64]; omega
    have hw2 : (i : Int) + 1 = ((i + 1 : Nat) : Int) := by omega
    have HHa := hid (fun x => Has_any p.set s[i].toNat x HWF.out.set (UInt8.toNat_lt _))
    rw [hbt] at HPA
    clear hbt hw2
    generalize p.set.has s[i].toNat = bb at HPA HHa
    cases bb with
    | true =>
      have HR : Hid (fin s.size [(i + 1, sp)] = parses s.data.toList lines (.mk p xs) i sp) := by show _ = _; rw [HPA.out, fin_one (by show i + 1 ≤ _; omega)]; simp [hil]
      clear HPA
      go_enter Try.func31, Try.ntmps31
      go_wp2_with fail
      refine wp_region_inv 14 (Grow) (by kernel_rfl) (by kernel_rfl) (Grow.refl) (fun _ _ _ => Grow.trans) ?_
      simp only [fill, dstOf, Act.put, List.take_succ_cons, List.take_zero, List.getElem?_toArray, List.getElem?_cons_zero, List.getElem?_cons_succ, Option.bind_some, List.setIfInBounds_toArray, List.set_cons_zero, List.set_cons_succ]
      refine Plan.det 1 rfl (Grow.refl) ?_
      apply Exists.intro
      refine ⟨fun vs x hR hF K hK => ?_, ?_⟩
      · clear hF
        go_simp
        exact hK _ _ (Grow.refl _) rfl
      refine Plan.det 2 rfl (Grow.refl) ?_
      apply Exists.intro
      refine ⟨fun vs x hR hF K hK => ?_, ?_⟩
      · clear hF
        go_simp
        exact hK _ _ (Grow.refl _) rfl
      refine Plan.det 3 rfl (Grow.refl) ?_
      apply Exists.intro
      refine ⟨fun vs x hR hF K hK => ?_, ?_⟩
      · have f1 := hF 0 _ _ rfl rfl; have hc := HC.out x hR; clear hF
        go_simp
        exact hK _ _ (Grow.refl _) rfl
      refine Plan.det 4 rfl (Grow.refl) ?_
      apply Exists.intro
      refine ⟨fun vs x hR hF K hK => ?_, ?_⟩
      · have f2 := hF 0 _ _ rfl rfl; clear hF
        go_simp
        exact hK _ _ (Grow.refl _) rfl
      refine Plan.det 5 rfl (Grow.refl) ?_
      apply Exists.intro
      refine ⟨fun vs x hR hF K hK => ?_, ?_⟩
      · have f0 := hF 3 _ _ rfl rfl; have f3 := hF 0 _ _ rfl rfl; clear hF
        go_simp
        exact hK _ _ (Grow.refl _) rfl
      refine Plan.det 6 rfl (Grow.refl) ?_
      apply Exists.intro
      refine ⟨fun vs x hR hF K hK => ?_, ?_⟩
      · have f4 := hF 0 _ _ rfl rfl; clear hF
        go_simp
        exact hK _ _ (Grow.refl _) rfl
      refine Plan.det 7 rfl (Grow.refl) ?_
      apply Exists.intro
      refine ⟨fun vs x hR hF K hK => ?_, ?_⟩
      · have f5 := hF 0 _ _ rfl rfl; clear hF
        go_simp
        exact hK _ _ (Grow.refl _) rfl
      refine Plan.det 8 rfl (Grow.refl) ?_
      apply Exists.intro
      refine ⟨fun vs x hR hF K hK => ?_, ?_⟩
      · have f5 := hF 1 _ _ rfl rfl; have f6 := hF 0 _ _ rfl rfl; have hc := HC.out x hR; clear hF
        go_simp
        exact hK _ _ (Grow.refl _) rfl
      refine Plan.det 9 rfl (Grow.refl) ?_
      apply Exists.intro
      refine ⟨fun vs x hR hF K hK => ?_, ?_⟩
      · have f5 := hF 2 _ _ rfl rfl; clear hF
        go_simp
        exact hK _ _ (Grow.refl _) rfl
      refine Plan.det 10 rfl (Grow.refl) ?_
      apply Exists.intro
      refine ⟨fun vs x hR hF K hK => ?_, ?_⟩
      · have f5 := hF 3 _ _ rfl rfl; have f8 := hF 0 _ _ rfl rfl; have hc := HC.out x hR; clear hF
        go_simp
        exact hK _ _ (Grow.refl _) rfl
      refine Plan.det 11 rfl (Grow.refl) ?_
      apply Exists.intro
      refine ⟨fun vs x hR hF K hK => ?_, ?_⟩
      · have f5 := hF 4 _ _ rfl rfl; clear hF
        go_simp
        exact hK _ _ (Grow.refl _) rfl
      refine Plan.det 12 rfl (Grow.refl) ?_
      apply Exists.intro
      refine ⟨fun vs x hR hF K hK => ?_, ?_⟩
      · have f5 := hF 5 _ _ rfl rfl; have f9 := hF 1 _ _ rfl rfl; have f10 := hF 0 _ _ rfl rfl; clear hF
        go_simp
        exact hK _ _ (Grow.refl _) rfl
      refine Plan.det 13 rfl (Grow.refl) ?_
      apply Exists.intro
      refine ⟨fun vs x hR hF K hK => ?_, ?_⟩
      · have f5 := hF 6 _ _ rfl rfl; have f7 := hF 4 _ _ rfl rfl; have f11 := hF 0 _ _ rfl rfl; clear hF
        go_simp
        refine (HHa.out x).mono ?_
        rintro e x1 ⟨rfl, hbe⟩
        exact ⟨_, rfl, hK _ _ hbe rfl⟩
      refine Plan.det 14 rfl (Grow.refl) ?_
      apply Exists.intro
      refine ⟨fun vs x hR hF K hK => ?_, ?_⟩
      · have f5 := hF 7 _ _ rfl rfl; have f12 := hF 0 _ _ rfl rfl; clear hF
        go_simp
        exact hK _ _ (Grow.refl _) rfl
      refine Plan.nil (fun vs x hR hF => ?_)
      have f0 := hF 13 _ _ rfl; have f1 := hF 12 _ _ rfl; have f2 := hF 11 _ _ rfl; have f3 := hF 10 _ _ rfl; have f4 := hF 9 _ _ rfl; have f5 := hF 8 _ _ rfl; have f6 := hF 7 _ _ rfl; have f7 := hF 6 _ _ rfl; have f8 := hF 5 _ _ rfl; have f9 := hF 4 _ _ rfl; have f10 := hF 3 _ _ rfl; have f11 := hF 2 _ _ rfl; have f12 := hF 1 _ _ rfl; have f13 := hF 0 _ _ rfl
      clear hF
      simp only [f0, f1, f2, f3, f4, f5, f6, f7, f8, f9, f10, f11, f12, f13]
      clear f0 f1 f2 f3 f4 f5 f6 f7 f8 f9 f10 f11 f12 f13
      simp only [List.drop_succ_cons, List.drop_zero]
      have hT9 := HT.out.later (grow_below hR)
      have HT9 := hid hT9
      have HS9 := hid (HS.out.below (grow_below hR))
      clear q0 q1 hR HC
      have q0 := hT9.1.two9
      have q1 := hT9.2.1.c9
      clear hT9
      go_wp2_with fail
      rw [show (i : Int) + 1 = ((i + 1 : Nat) : Int) by omega]
      refine (radd_any _ w.heap.size (.slice none 0 0) (.slice sa sp.length sc) [] (i + 1) sp (OwnP.nil _ _) HS9.out (by simp) HT9.out.2.2.size (fun q hq => by have := List.mem_singleton.1 hq; subst this; exact ⟨by show sp.length ≤ 9; omega, by show (i + 1) ≤ _; omega⟩)).mono ?_
      rintro e w1 ⟨a1, c1, rfl, ho, hg, -⟩
      have hT1 := HT9.out.later (grown_nil hg)
      have HT1 := hid hT1
      have HO1 := hid ho.psq
      have q2 := hT1.1.two9
      have q3 := hT1.2.1.c9
      clear ho hg hT1
      have hl1 : (addP [] ((i + 1), sp)).length = 1 := rfl
      rw [hl1] at HO1 ⊢
      go_wp2_with fail
      refine (rdone_any _ _ _ [((i + 1), sp)] [((i + 1), sp)] s lines rfl HO1.out (by simp) hs).mono ?_
      rintro e w2 hr
      obtain ⟨a2, n2, c2, b2, rfl, HRR⟩ := hr.on HT1.out.2.2 HR.out
      clear hr
      go_wp2_with fail
      go_ret2
      exact HRR.out
    | false =>
      have HR : Hid (fin s.size [] = parses s.data.toList lines (.mk p xs) i sp) := by show _ = _; rw [HPA.out, fin_nil]; simp
      clear HPA
      go_enter Try.func31, Try.ntmps31
      go_wp2_with fail
      refine wp_region_inv 14 (Grow) (by kernel_rfl) (by kernel_rfl) (Grow.refl) (fun _ _ _ => Grow.trans) ?_
      simp only [fill, dstOf, Act.put, List.take_succ_cons, List.take_zero, List.getElem?_toArray, List.getElem?_cons_zero, List.getElem?_cons_succ, Option.bind_some, List.setIfInBounds_toArray, List.set_cons_zero, List.set_cons_succ]
      refine Plan.det 1 rfl (Grow.refl) ?_
      apply Exists.intro
      refine ⟨fun vs x hR hF K hK => ?_, ?_⟩
      · clear hF
        go_simp
        exact hK _ _ (Grow.refl _) rfl
      refine Plan.det 2 rfl (Grow.refl) ?_
      apply Exists.intro
      refine ⟨fun vs x hR hF K hK => ?_, ?_⟩
      · clear hF
        go_simp
        exact hK _ _ (Grow.refl _) rfl
      refine Plan.det 3 rfl (Grow.refl) ?_
      apply Exists.intro
      refine ⟨fun vs x hR hF K hK => ?_, ?_⟩
      · have f1 := hF 0 _ _ rfl rfl; have hc := HC.out x hR; clear hF
        go_simp
        exact hK _ _ (Grow.refl _) rfl
      refine Plan.det 4 rfl (Grow.refl) ?_
      apply Exists.intro
      refine ⟨fun vs x hR hF K hK => ?_, ?_⟩
      · have f2 := hF 0 _ _ rfl rfl; clear hF
        go_simp
        exact hK _ _ (Grow.refl _) rfl
      refine Plan.det 5 rfl (Grow.refl) ?_
      apply Exists.intro
      refine ⟨fun vs x hR hF K hK => ?_, ?_⟩
      · have f0 := hF 3 _ _ rfl rfl; have f3 := hF 0 _ _ rfl rfl; clear hF
        go_simp
        exact hK _ _ (Grow.refl _) rfl
      refine Plan.det 6 rfl (Grow.refl) ?_
      apply Exists.intro
      refine ⟨fun vs x hR hF K hK => ?_, ?_⟩
      · have f4 := hF 0 _ _ rfl rfl; clear hF
        go_simp
        exact hK _ _ (Grow.refl _) rfl
      refine Plan.det 7 rfl (Grow.refl) ?_
      apply Exists.intro
      refine ⟨fun vs x hR hF K hK => ?_, ?_⟩
      · have f5 := hF 0 _ _ rfl rfl; clear hF
        go_simp
        exact hK _ _ (Grow.refl _) rfl
      refine Plan.det 8 rfl (Grow.refl) ?_
      apply Exists.intro
      refine ⟨fun vs x hR hF K hK => ?_, ?_⟩
      · have f5 := hF 1 _ _ rfl rfl; have f6 := hF 0 _ _ rfl rfl; have hc := HC.out x hR; clear hF
        go_simp
        exact hK _ _ (Grow.refl _) rfl
      refine Plan.det 9 rfl (Grow.refl) ?_
      apply Exists.intro
      refine ⟨fun vs x hR hF K hK => ?_, ?_⟩
      · have f5 := hF 2 _ _ rfl rfl; clear hF
        go_simp
        exact hK _ _ (Grow.refl _) rfl
      refine Plan.det 10 rfl (Grow.refl) ?_
      apply Exists.intro
      refine ⟨fun vs x hR hF K hK => ?_, ?_⟩
      · have f5 := hF 3 _ _ rfl rfl; have f8 := hF 0 _ _ rfl rfl; have hc := HC.out x hR; clear hF
        go_simp
        exact hK _ _ (Grow.refl _) rfl
      refine Plan.det 11 rfl (Grow.refl) ?_
      apply Exists.intro
      refine ⟨fun vs x hR hF K hK => ?_, ?_⟩
      · have f5 := hF 4 _ _ rfl rfl; clear hF
        go_simp
        exact hK _ _ (Grow.refl _) rfl
      refine Plan.det 12 rfl (Grow.refl) ?_
      apply Exists.intro
      refine ⟨fun vs x hR hF K hK => ?_, ?_⟩
      · have f5 := hF 5 _ _ rfl rfl; have f9 := hF 1 _ _ rfl rfl; have f10 := hF 0 _ _ rfl rfl; clear hF
        go_simp
        exact hK _ _ (Grow.refl _) rfl
      refine Plan.det 13 rfl (Grow.refl) ?_
      apply Exists.intro
      refine ⟨fun vs x hR hF K hK => ?_, ?_⟩
      · have f5 := hF 6 _ _ rfl rfl; have f7 := hF 4 _ _ rfl rfl; have f11 := hF 0 _ _ rfl rfl; clear hF
        go_simp
        refine (HHa.out x).mono ?_
        rintro e x1 ⟨rfl, hbe⟩
        exact ⟨_, rfl, hK _ _ hbe rfl⟩
      refine Plan.det 14 rfl (Grow.refl) ?_
      apply Exists.intro
      refine ⟨fun vs x hR hF K hK => ?_, ?_⟩
      · have f5 := hF 7 _ _ rfl rfl; have f12 := hF 0 _ _ rfl rfl; clear hF
        go_simp
        exact hK _ _ (Grow.refl _) rfl
      refine Plan.nil (fun vs x hR hF => ?_)
      have f0 := hF 13 _ _ rfl; have f1 := hF 12 _ _ rfl; have f2 := hF 11 _ _ rfl; have f3 := hF 10 _ _ rfl; have f4 := hF 9 _ _ rfl; have f5 := hF 8 _ _ rfl; have f6 := hF 7 _ _ rfl; have f7 := hF 6 _ _ rfl; have f8 := hF 5 _ _ rfl; have f9 := hF 4 _ _ rfl; have f10 := hF 3 _ _ rfl; have f11 := hF 2 _ _ rfl; have f12 := hF 1 _ _ rfl; have f13 := hF 0 _ _ rfl
      clear hF
      simp only [f0, f1, f2, f3, f4, f5, f6, f7, f8, f9, f10, f11, f12, f13]
      clear f0 f1 f2 f3 f4 f5 f6 f7 f8 f9 f10 f11 f12 f13
      simp only [List.drop_succ_cons, List.drop_zero]
      have hT9 := HT.out.later (grow_below hR)
      have HT9 := hid hT9
      clear q0 q1 hR HC
      have q0 := hT9.1.two9
      have q1 := hT9.2.1.c9
      clear hT9
      go_wp2_with fail
      refine (rdone_any _ (fun _ => True) _ [] [] s lines rfl (.inl ⟨rfl, rfl⟩) (by simp) hs).mono ?_
      rintro e w2 hr
      obtain ⟨a2, n2, c2, b2, rfl, HRR⟩ := hr.on HT9.out.2.2 HR.out
      clear hr
      go_wp2_with fail
      go_ret2
      exact HRR.out
  · have hj : ¬ (i : Int) < s.size := by omega
    have d0 : decide ((i : Int) < (s.size : Int)) = false := by simp; omega
    have HR : Hid (fin s.size [] = parses s.data.toList lines (.mk p xs) i sp) := by show _ = _; rw [HPA.out, fin_nil]; simp [hil]
    have d1 : decide (i < s.size) = false := by simp [hil]
    clear HPA
    go_enter Try.func31, Try.ntmps31
    go_wp2_with fail
    refine wp_region_inv 14 (Grow) (by kernel_rfl) (by kernel_rfl) (Grow.refl) (fun _ _ _ => Grow.trans) ?_
    simp only [fill, dstOf, Act.put, List.take_succ_cons, List.take_zero, List.getElem?_toArray, List.getElem?_cons_zero, List.getElem?_cons_succ, Option.bind_some, List.setIfInBounds_toArray, List.set_cons_zero, List.set_cons_succ]
    refine Plan.det 1 rfl (Grow.refl) ?_
    apply Exists.intro
    refine ⟨fun vs x hR hF K hK => ?_, ?_⟩
    · clear hF
      go_simp
      exact hK _ _ (Grow.refl _) rfl
    refine Plan.det 2 rfl (Grow.refl) ?_
    apply Exists.intro
    refine ⟨fun vs x hR hF K hK => ?_, ?_⟩
    · clear hF
      go_simp
      exact hK _ _ (Grow.refl _) rfl
    refine Plan.det 3 rfl (Grow.refl) ?_
    apply Exists.intro
    refine ⟨fun vs x hR hF K hK => ?_, ?_⟩
    · have f1 := hF 0 _ _ rfl rfl; have hc := HC.out x hR; clear hF
      go_simp
      exact hK _ _ (Grow.refl _) rfl
    refine Plan.det 4 rfl (Grow.refl) ?_
    apply Exists.intro
    refine ⟨fun vs x hR hF K hK => ?_, ?_⟩
    · have f2 := hF 0 _ _ rfl rfl; clear hF
      go_simp
      exact hK _ _ (Grow.refl _) rfl
    refine Plan.det 5 rfl (Grow.refl) ?_
    apply Exists.intro
    refine ⟨fun vs x hR hF K hK => ?_, ?_⟩
    · have f0 := hF 3 _ _ rfl rfl; have f3 := hF 0 _ _ rfl rfl; clear hF
      go_simp
      exact hK _ _ (Grow.refl _) rfl
    refine Plan.det 6 rfl (Grow.refl) ?_
    apply Exists.intro
    refine ⟨fun vs x hR hF K hK => ?_, ?_⟩
    · have f4 := hF 0 _ _ rfl rfl; clear hF
      go_simp
      exact hK _ _ (Grow.refl _) rfl
    refine Plan.det 7 rfl (Grow.refl) ?_
    apply Exists.intro
    refine ⟨fun vs x hR hF K hK => ?_, ?_⟩
    · have f5 := hF 0 _ _ rfl rfl; clear hF
      go_simp
      exact hK _ _ (Grow.refl _) rfl
    refine Plan.det 8 rfl (Grow.refl) ?_
    apply Exists.intro
    refine ⟨fun vs x hR hF K hK => ?_, ?_⟩
    · have f5 := hF 1 _ _ rfl rfl; have f6 := hF 0 _ _ rfl rfl; have hc := HC.out x hR; clear hF
      go_simp
      exact hK _ _ (Grow.refl _) rfl
    refine Plan.det 9 rfl (Grow.refl) ?_
    apply Exists.intro
    refine ⟨fun vs x hR hF K hK => ?_, ?_⟩
    · have f5 := hF 2 _ _ rfl rfl; clear hF
      go_simp
      exact hK _ _ (Grow.refl _) rfl
    refine Plan.det 10 rfl (Grow.refl) ?_
    apply Exists.intro
    refine ⟨fun vs x hR hF K hK => ?_, ?_⟩
    · have f5 := hF 3 _ _ rfl rfl; have f8 := hF 0 _ _ rfl rfl; have hc := HC.out x hR; clear hF
      go_simp
      exact hK _ _ (Grow.refl _) rfl
    refine Plan.det 11 rfl (Grow.refl) ?_
    apply Exists.intro
    refine ⟨fun vs x hR hF K hK => ?_, ?_⟩
    · have f5 := hF 4 _ _ rfl rfl; clear hF
      go_simp
      exact hK _ _ (Grow.refl _) rfl
    refine Plan.det 12 rfl (Grow.refl) ?_
    apply Exists.intro
    refine ⟨fun vs x hR hF K hK => ?_, ?_⟩
    · have f5 := hF 5 _ _ rfl rfl; have f9 := hF 1 _ _ rfl rfl; have f10 := hF 0 _ _ rfl rfl; clear hF
      go_simp
      exact hK _ _ (Grow.refl _) rfl
    refine Plan.det 13 rfl (Grow.refl) ?_
    apply Exists.intro
    refine ⟨fun vs x hR hF K hK => ?_, ?_⟩
    · have f5 := hF 6 _ _ rfl rfl; have f7 := hF 4 _ _ rfl rfl; have f11 := hF 0 _ _ rfl rfl; clear hF
      go_simp
      exact hK _ _ (Grow.refl _) rfl
    refine Plan.det 14 rfl (Grow.refl) ?_
    apply Exists.intro
    refine ⟨fun vs x hR hF K hK => ?_, ?_⟩
    · have f5 := hF 7 _ _ rfl rfl; have f12 := hF 0 _ _ rfl rfl; clear hF
      go_simp
      exact hK _ _ (Grow.refl _) rfl
    refine Plan.nil (fun vs x hR hF => ?_)
    have f0 := hF 13 _ _ rfl; have f1 := hF 12 _ _ rfl; have f2 := hF 11 _ _ rfl; have f3 := hF 10 _ _ rfl; have f4 := hF 9 _ _ rfl; have f5 := hF 8 _ _ rfl; have f6 := hF 7 _ _ rfl; have f7 := hF 6 _ _ rfl; have f8 := hF 5 _ _ rfl; have f9 := hF 4 _ _ rfl; have f10 := hF 3 _ _ rfl; have f11 := hF 2 _ _ rfl; have f12 := hF 1 _ _ rfl; have f13 := hF 0 _ _ rfl
    clear hF
    simp only [f0, f1, f2, f3, f4, f5, f6, f7, f8, f9, f10, f11, f12, f13]
    clear f0 f1 f2 f3 f4 f5 f6 f7 f8 f9 f10 f11 f12 f13
    simp only [List.drop_succ_cons, List.drop_zero]
    have hT9 := HT.out.later (grow_below hR)
    have HT9 := hid hT9
    clear q0 q1 hR HC
    have q0 := hT9.1.two9
    have q1 := hT9.2.1.c9
    clear hT9
    go_wp2_with fail
    refine (rdone_any _ (fun _ => True) _ [] [] s lines rfl (.inl ⟨rfl, rfl⟩) (by simp) hs).mono ?_
    rintro e w2 hr
    obtain ⟨a2, n2, c2, b2, rfl, HRR⟩ := hr.on HT9.out.2.2 HR.out
    clear hr
    go_wp2_with fail
    go_ret2
    exact HRR.out
end Go.Proofs.Ythnpbopnpdlmnaa
