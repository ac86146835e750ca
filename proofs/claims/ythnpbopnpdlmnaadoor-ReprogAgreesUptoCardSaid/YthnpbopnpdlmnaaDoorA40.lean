/- The program of layer 9: parses, op 8. -/
import Derived.Test.YthnpbopnpdlmnaaDoorA32
import Derived.Test.YthnpbopnpdlmnaaDoorA31
namespace Go.Proofs.YthnpbopnpdlmnaaDoor
open Go.RowKit
attribute [local go_sem] gives givesUpon

set_option maxRecDepth 100000 in
set_option maxHeartbeats 16000000 in
theorem ppar8 (wb : World) (N : Nat) (hN : N ≤ 9) (s : ByteArray) (hs : s.size ≤ 1000000) (lines : Bool) (p : Pay) (xs : List Re) (hop : p.op = 8) : PPar wb N s lines (.mk p xs) := by
  intro w cs M sa sc sp i hIn hok hsz hbw hM hsp hspo hi ht
  rw [Re.In] at hIn
  obtain ⟨ad, cap, rfl, hwf, -, -, -, -⟩ := hIn
  simp only [Pay.cells]
  have hP : PAt w M s lines [.int .i64 p.op, .int .u64 p.set.a, .int .u64 p.set.b, .int .u64 p.set.c, .int .u64 p.set.d, .int .i64 p.lo, .int .i64 p.hi, .int .i64 p.gr, .slice ad xs.length cap] (.int .i64 i) (.slice sa sp.length sc) (((w.alloc (.cells #[.int .i64 p.op, .int .u64 p.set.a, .int .u64 p.set.b, .int .u64 p.set.c, .int .u64 p.set.d, .int .i64 p.lo, .int .i64 p.hi, .int .i64 p.gr, .slice ad xs.length cap] 28)).alloc (.cells #[.int .i64 i, .slice sa sp.length sc] 71)).alloc (.cells #[.slice none 0 0] 39)) := ⟨((Row.new rfl).alloc _).alloc _, (Row.new (by simp)).alloc _, ((hM.alloc _).alloc _).alloc _, (((Below.refl _ _).alloc (Nat.le_refl _) _).alloc (by simp) _).alloc (by simp; omega) _⟩
  have hO : OutV (w.heap.size + 2) (.slice none 0 0) [] (((w.alloc (.cells #[.int .i64 p.op, .int .u64 p.set.a, .int .u64 p.set.b, .int .u64 p.set.c, .int .u64 p.set.d, .int .i64 p.lo, .int .i64 p.hi, .int .i64 p.gr, .slice ad xs.length cap] 28)).alloc (.cells #[.int .i64 i, .slice sa sp.length sc] 71)).alloc (.cells #[.slice none 0 0] 39)) := ⟨Row.new (by simp), OwnP.nil _ _⟩
  have q0 := hP.1.c9
  have q1 := hP.2.1.two9
  have q2 := hP.2.2.1.two9
  have HP := hid (⟨hP, hO⟩ : _ ∧ _)
  have HT := hid ht
  have HSP := hid (⟨hsp, hspo⟩ : _ ∧ _)
  have HO := hid hop
  have hsl : s.data.toList.length = s.size := by rw [Array.length_toList]; rfl
  have HSL := hid hsl
  have HI := hid hi
  clear hP hO hok hsz hbw hM hsp hspo ht hop hsl
  have e1 : (p.op == 1) = false := by rw [HO.out]; decide
  have e2 : (p.op == 2) = false := by rw [HO.out]; decide
  have e7 : (p.op == 7) = false := by rw [HO.out]; decide
  have e8 : (p.op == 8) = true := by rw [HO.out]; decide
  have e9 : (p.op == 9) = false := by rw [HO.out]; decide
  have hsz3 : w.heap.size + 2 < ((((w.alloc (.cells #[.int .i64 p.op, .int .u64 p.set.a, .int .u64 p.set.b, .int .u64 p.set.c, .int .u64 p.set.d, .int .i64 p.lo, .int .i64 p.hi, .int .i64 p.gr, .slice ad xs.length cap] 28)).alloc (.cells #[.int .i64 i, .slice sa sp.length sc] 71)).alloc (.cells #[.slice none 0 0] 39))).heap.size := by simp
  have HC := hid (fun (x : World) (hx : Grow ((((w.alloc (.cells #[.int .i64 p.op, .int .u64 p.set.a, .int .u64 p.set.b, .int .u64 p.set.c, .int .u64 p.set.d, .int .i64 p.lo, .int .i64 p.hi, .int .i64 p.gr, .slice ad xs.length cap] 28)).alloc (.cells #[.int .i64 i, .slice sa sp.length sc] 71)).alloc (.cells #[.slice none 0 0] 39))).drew x) => (⟨(HP.out.1.later (grow_below hx)).2.1.two9, (HP.out.1.later (grow_below hx)).2.2.1.two9⟩ : _ ∧ _))
  obtain ⟨k, hk⟩ : ∃ k, k = holdsOf s.data.toList lines 8 i := ⟨_, rfl⟩
  have HBG := hid (fun (x : World) (hx : Grow ((((w.alloc (.cells #[.int .i64 p.op, .int .u64 p.set.a, .int .u64 p.set.b, .int .u64 p.set.c, .int .u64 p.set.d, .int .i64 p.lo, .int .i64 p.hi, .int .i64 p.gr, .slice ad xs.length cap] 28)).alloc (.cells #[.int .i64 i, .slice sa sp.length sc] 71)).alloc (.cells #[.slice none 0 0] 39))).drew x) => pends_any x M s lines i (HP.out.1.later (grow_below hx)).2.2.1 HI.out hs)
  rw [← hk] at HBG
  obtain ⟨L, hL⟩ : ∃ L : List Parse, L = if k = true then [] ++ [(i, sp)] else [] := ⟨_, rfl⟩
  have HPA : Hid (parses s.data.toList lines (.mk p xs) i sp = some L) := by
    show _ = _
    have h9 : parses s.data.toList lines (.mk p xs) i sp = some (if holdsOf s.data.toList lines 8 i = true then [(i, sp)] else []) := by rw [parses]; simp only [HO.out, holdsOf]; rfl
    rw [h9, ← hk, hL]; simp
  have HQ : Hid (∀ q, q ∈ L → POk N s.size 0 q) := fun q hq => by
    rw [hL] at hq
    split at hq
    · rw [List.mem_singleton.1 hq]; exact ⟨Nat.zero_le _, HI.out, HSP.out.2⟩
    · cases hq
  have HFI : Hid (fin s.size L = some L) := by
    show _ = _
    rw [hL]
    split
    · exact fin_one (q := (i, sp)) HI.out
    · exact fin_nil _
  have HLN : Hid (L.length ≤ 200000) := by unfold Hid; rw [hL]; split <;> simp
  have HLL := hid hL
  clear hL hk
  go_enter Tryd.func37, Tryd.ntmps37
  go_wp2_with fail
  refine wp_region_two 5 6 rfl (Grow) (by kernel_rfl) (by kernel_rfl) (Grow.refl) (fun _ _ _ => Grow.trans) ?_
  simp only [fill, dstOf, Act.put, List.take_succ_cons, List.take_zero, List.getElem?_toArray, List.getElem?_cons_zero, List.getElem?_cons_succ, Option.bind_some, List.setIfInBounds_toArray, List.set_cons_zero, List.set_cons_succ]
  refine Plan.det 1 rfl (Grow.refl) ?_
  apply Exists.intro
  refine ⟨fun vs x hR hF K hK => ?_, ?_⟩
  · clear hF
    go_simp
    exact hK _ _ (Grow.refl _) rfl
  refine Plan.det 2 rfl (Grow.refl) ?_
  apply Exists.intro
  refine ⟨fun vs x hR hF K hK => ?_, ?_⟩
  · clear hF
    go_simp
    exact hK _ _ (Grow.refl _) rfl
  refine Plan.det 3 rfl (Grow.refl) ?_
  apply Exists.intro
  refine ⟨fun vs x hR hF K hK => ?_, ?_⟩
  · clear hF
    go_simp
    exact hK _ _ (Grow.refl _) rfl
  refine Plan.det 4 rfl (Grow.refl) ?_
  apply Exists.intro
  refine ⟨fun vs x hR hF K hK => ?_, ?_⟩
  · have f1 := hF 1 _ _ rfl rfl; have f2 := hF 0 _ _ rfl rfl; clear hF
    go_simp
    refine (HBG.out x hR).mono ?_
    rintro e x1 ⟨rfl, hbe⟩
    exact ⟨_, rfl, hK _ _ hbe rfl⟩
  refine Plan.det 5 rfl (Grow.refl) ?_
  apply Exists.intro
  refine ⟨fun vs x hR hF K hK => ?_, ?_⟩
  · have hc := HC.out x hR; clear hF
    go_simp
    exact hK _ _ (Grow.refl _) rfl
  refine PlanEnd (by simp) (fun vs x hR hF => ?_)
  have f0 := hF 4 _ _ rfl; have f1 := hF 3 _ _ rfl; have f2 := hF 2 _ _ rfl; have f3 := hF 1 _ _ rfl; have f4 := hF 0 _ _ rfl
  clear hF
  simp only [f0, f1, f2, f3, f4]
  clear f0 f1 f2 f3 f4
  intro oo hoo KQ hK
  obtain rfl := Option.some.inj hoo
  clear hoo
  have HBX := hid (HP.out.1.2.2.2.trans ((grow_below hR).mono (by omega)))
  have HOX := hid (HP.out.2.below (grow_below hR))
  have HSX := hid (HSP.out.1.below HBX.out)
  clear hR
  go_simp
  have hpa := padd_any x (w.heap.size + 2) (.slice none 0 0) [] k (i, sp) sa sc HOX.out (by simp) HSX.out
  rw [← HLL.out] at hpa
  refine hpa.mono ?_
  clear hpa
  rintro e z ⟨rfl, ov, hz⟩
  refine ⟨_, rfl, hK _ _ ?_⟩
  clear hK
  unfold AfterC
  simp only [fill, dstOf, Act.put, List.getElem?_toArray, List.getElem?_cons_zero, List.getElem?_cons_succ, Option.bind_some, List.setIfInBounds_toArray, List.set_cons_zero, List.set_cons_succ, List.drop_succ_cons, List.drop_zero]
  refine Plan.nil (fun vs x hR2 hF => ?_)
  have f5 := hF 0 _ _ rfl
  clear hF
  simp only [f5]
  clear f5
  subst hR2
  simp only [List.drop_succ_cons, List.drop_nil]
  clear HC q0 q1 q2 HBG
  have HZ := hid (⟨hz.1, HBX.out.trans ((hz.low HOX.out).mono (by have := HBX.out.size; omega))⟩ : _ ∧ Below w.heap.size w z)
  have q3 := HZ.out.1.1.cell 0
  have HE := hid (pend_any w z _ ov _ N s.size _ HZ.out.1 HZ.out.2 HLN.out HQ.out hN hs HT.out HFI.out)
  clear hz
  go_wp2_with fail
  refine HE.out.mono ?_
  rintro e z2 ⟨hb2, a2, c2, rfl, h2⟩
  have HR := hid (⟨hb2, h2⟩ : _ ∧ _)
  clear hb2 h2
  go_wp2_with fail
  go_ret
  rw [HPA.out]
  exact ⟨HR.out.1, a2, c2, rfl, HR.out.2⟩
end Go.Proofs.YthnpbopnpdlmnaaDoor
