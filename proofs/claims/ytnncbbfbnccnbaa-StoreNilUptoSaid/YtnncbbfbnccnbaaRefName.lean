/- The reference's FileName. -/
import Derived.Test.YtnncbbfbnccnbaaFName
namespace Go.Proofs.Ytnncbbfbnccnbaa
open Go.RowKit
attribute [local go_sem] gives givesUpon

theorem emp_false {nm : ByteArray} (h0 : 1 ≤ nm.size) : nm.toList.isEmpty = false := by
  rw [ByteArray.toList_eq]
  have h5 : nm.data.toList.length = nm.size := by rw [Array.length_toList]; rfl
  cases hd : nm.data.toList with
  | nil => rw [hd] at h5; simp at h5; omega
  | cons a l => rfl
theorem or32f : ∀ c : Fin 256, (97 ≤ bits BinOp.or IntKind.u8 (c.val : Int) 32 ∧ bits BinOp.or IntKind.u8 (c.val : Int) 32 ≤ 122 ∧ ((97 ≤ c.val ∧ c.val ≤ 122) ∨ (65 ≤ c.val ∧ c.val ≤ 90))) ∨ ((bits BinOp.or IntKind.u8 (c.val : Int) 32 < 97 ∨ 122 < bits BinOp.or IntKind.u8 (c.val : Int) 32) ∧ ¬ ((97 ≤ c.val ∧ c.val ≤ 122) ∨ (65 ≤ c.val ∧ c.val ≤ 90))) := by decide +kernel
theorem or32 (c : UInt8) : (97 ≤ bits BinOp.or IntKind.u8 (c.toNat : Int) 32 ∧ bits BinOp.or IntKind.u8 (c.toNat : Int) 32 ≤ 122 ∧ ((97 ≤ c.toNat ∧ c.toNat ≤ 122) ∨ (65 ≤ c.toNat ∧ c.toNat ≤ 90))) ∨ ((bits BinOp.or IntKind.u8 (c.toNat : Int) 32 < 97 ∨ 122 < bits BinOp.or IntKind.u8 (c.toNat : Int) 32) ∧ ¬ ((97 ≤ c.toNat ∧ c.toNat ≤ 122) ∨ (65 ≤ c.toNat ∧ c.toNat ≤ 90))) := or32f ⟨c.toNat, c.toNat_lt⟩
set_option maxRecDepth 100000 in
set_option maxHeartbeats 8000000 in
theorem RefName_any (nm : ByteArray) (w : World) (hn : nm.size ≤ 1000000000) : Calls Try.prog 26 #[.string nm] w fun e w' => e = .returned (.bool (nameOk nm.data.toList)) ∧ w' = w := by
  have HI := hid (nameOk_iff nm)
  have HBD := hid (fun k h => @nameOk_bad nm k h)
  generalize nameOk nm.data.toList = ans at *
  rcases Nat.eq_zero_or_pos nm.size with h0 | h0
  · have e : nm = ⟨#[]⟩ := by
      have : nm.data.size = 0 := h0
      cases nm
      simp only at this
      congr
      exact Array.eq_empty_of_size_eq_zero this
    have ha : ans = false := by
      rcases Bool.eq_false_or_eq_true ans with h1 | h1
      · have := (HI.out.1 h1).1; omega
      · exact h1
    subst ha
    subst e
    clear HBD HI
    go_enter Try.func26, Try.ntmps26
    go_wp2_with fail
    all_goals go_ret
    all_goals exact ⟨rfl, rfl⟩
  have dn := emp_false h0
  rcases Nat.lt_or_ge 32 nm.size with h1 | h1
  · have ha : ans = false := by
      rcases Bool.eq_false_or_eq_true ans with h2 | h2
      · have := (HI.out.1 h2).2.1; omega
      · exact h2
    subst ha
    go_enter Try.func26, Try.ntmps26
    go_wp2_with fail
    all_goals go_ret
    all_goals exact ⟨rfl, rfl⟩
  by_cases hd : 48 ≤ nm[0].toNat ∧ nm[0].toNat ≤ 57
  · have ha : ans = false := HBD.out 0 h0 (by unfold cok; omega)
    subst ha
    go_enter Try.func26, Try.ntmps26
    go_wp2_with fail
    all_goals go_ret
    all_goals exact ⟨rfl, rfl⟩
  rcases (show nm[0].toNat < 48 ∨ 57 < nm[0].toNat by omega) with hd1 | hd1
  all_goals
    go_enter Try.func26, Try.ntmps26
    go_wp2_with fail
    go_loopw [3] (fun i wr => ∃ k : Nat, k ≤ nm.size ∧ i = .int .i64 k ∧ wr = w ∧ Hid (∀ j (h : j < nm.size), j < k → cok nm j h)) (fun i _ => nm.size - (intOf i).toNat)
    case atStart => exact ⟨0, by omega, rfl, rfl, fun j h hj => absurd hj (by omega)⟩
    case round =>
      obtain ⟨k, hk, rfl, rfl, HK⟩ := hrel
      by_cases hlt : k < nm.size
      · have HO32 := hid (or32 nm[k])
        have HK0 : Hid (k = 0 → nm[k].toNat = nm[0].toNat) := by intro e; subst e; rfl
        by_cases hc : cok nm k hlt
        · have HC := hid hc
          have hcc := hc
          have ho := HO32.out
          unfold cok at hcc
          clear hc
          rcases (show (97 ≤ bits BinOp.or IntKind.u8 (nm[k].toNat : Int) 32 ∧ bits BinOp.or IntKind.u8 (nm[k].toNat : Int) 32 ≤ 122) ∨ ((bits BinOp.or IntKind.u8 (nm[k].toNat : Int) 32 < 97 ∨ 122 < bits BinOp.or IntKind.u8 (nm[k].toNat : Int) 32) ∧ 48 ≤ nm[k].toNat ∧ nm[k].toNat ≤ 57) ∨ (bits BinOp.or IntKind.u8 (nm[k].toNat : Int) 32 < 97 ∨ 122 < bits BinOp.or IntKind.u8 (nm[k].toNat : Int) 32) ∧ (nm[k].toNat = 95 ∨ nm[k].toNat = 46) by omega) with hq | ⟨hq | hq, hq2⟩ | ⟨hq | hq, hq2⟩
          case _ =>
            clear hcc ho
            go_wp2_with fail
            all_goals (refine ⟨⟨k + 1, by omega, by go_num, ?_⟩, by simp [intOf]; omega⟩)
            all_goals (refine ⟨trivial, fun j h hj => ?_⟩)
            all_goals (rcases Nat.lt_or_ge j k with h1 | h1)
            all_goals first | exact HK.out j h h1 | (obtain rfl : j = k := by omega
                                                     exact HC.out)
          all_goals
            clear hcc ho
            try (rcases hq2 with hq2 | hq2)
            all_goals
              try have hq3 : ((nm[k].toNat : Int) != 95) = false := by rw [hq2]; rfl
              try have hq3 : ((nm[k].toNat : Int) != 46) = false := by rw [hq2]; rfl
              try have hq4 : ((nm[k].toNat : Int) != 95) = true := by rw [hq2]; rfl
              go_wp2_with fail
              all_goals (refine ⟨⟨k + 1, by omega, by go_num, ?_⟩, by simp [intOf]; omega⟩)
              all_goals (refine ⟨trivial, fun j h hj => ?_⟩)
              all_goals (rcases Nat.lt_or_ge j k with h1 | h1)
              all_goals first | exact HK.out j h h1 | (obtain rfl : j = k := by omega
                                                       exact HC.out)
        · have ha : ans = false := HBD.out k hlt hc
          subst ha
          have ho := HO32.out
          have hk0 := HK0.out
          have hcc := hc
          unfold cok at hcc
          have e1 : ((nm[k].toNat : Int) != 95) = true := by simp; omega
          have e2 : ((nm[k].toNat : Int) != 46) = true := by simp; omega
          rcases (show (bits BinOp.or IntKind.u8 (nm[k].toNat : Int) 32 < 97 ∨ 122 < bits BinOp.or IntKind.u8 (nm[k].toNat : Int) 32) ∧ (nm[k].toNat < 48 ∨ 57 < nm[k].toNat) by omega) with ⟨hq | hq, hq2 | hq2⟩
          all_goals
            clear hcc ho hc hk0
            go_wp2_with fail
            all_goals go_ret
            all_goals exact ⟨rfl, rfl⟩
      · obtain rfl : k = nm.size := by omega
        have HALL : Hid (∀ j (h : j < nm.size), cok nm j h) := fun j h => HK.out j h h
        have ha : ans = true := HI.out.2 ⟨h0, h1, HALL.out⟩
        subst ha
        go_wp2_with fail
        all_goals go_ret
        all_goals exact ⟨rfl, rfl⟩
end Go.Proofs.Ytnncbbfbnccnbaa
