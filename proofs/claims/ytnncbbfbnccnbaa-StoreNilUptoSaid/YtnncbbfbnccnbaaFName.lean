/- The program's fileName. -/
import Derived.Test.YtnncbbfbnccnbaaAb
namespace Go.Proofs.Ytnncbbfbnccnbaa
open Go.RowKit
attribute [local go_sem] gives givesUpon

/-- Is the byte k of a name right? -/
def cok (nm : ByteArray) (k : Nat) (h : k < nm.size) : Prop := (97 ≤ nm[k].toNat ∧ nm[k].toNat ≤ 122) ∨ (65 ≤ nm[k].toNat ∧ nm[k].toNat ≤ 90) ∨ nm[k].toNat = 95 ∨ nm[k].toNat = 46 ∨ ((48 ≤ nm[k].toNat ∧ nm[k].toNat ≤ 57) ∧ 0 < k)
theorem nameOk_list (l : List UInt8) (nm : ByteArray) (hl : l.length = nm.size) (hg : ∀ k (h1 : k < l.length) (h : k < nm.size), l[k] = nm[k]) : nameOk l = true ↔ 1 ≤ nm.size ∧ nm.size ≤ 32 ∧ ∀ k h, cok nm k h := by
  unfold nameOk
  simp only [Bool.and_eq_true, decide_eq_true_eq, List.all_eq_true, Bool.not_eq_true', hl]
  constructor
  · rintro ⟨⟨⟨h1, h2⟩, h3⟩, h4⟩
    refine ⟨h1, h2, fun k h => ?_⟩
    have h5 := h3 (l[k]'(by omega)) (List.getElem_mem _)
    rw [hg k (by omega) h] at h5
    unfold cok
    rcases Nat.eq_zero_or_pos k with h0 | h0
    · subst h0
      match l, hl, h4 with
      | [], hl, _ => simp at hl; omega
      | c :: l', hl, h4 =>
        have e : (c :: l')[0]'(by simp) = nm[0] := hg 0 (by simp) h
        have e2 : c = nm[0] := e
        rw [e2] at h4
        simp only [decide_eq_false_iff_not] at h4
        omega
    · omega
  · rintro ⟨h1, h2, h3⟩
    refine ⟨⟨⟨h1, h2⟩, fun c hc => ?_⟩, ?_⟩
    · obtain ⟨k, hk, rfl⟩ := List.mem_iff_getElem.1 hc
      have h5 := h3 k (by omega)
      rw [hg k (by omega) (by omega)]
      unfold cok at h5
      omega
    · match l, hl with
      | [], hl => simp at hl; omega
      | c :: l', hl =>
        have e : (c :: l')[0]'(by simp) = nm[0] := hg 0 (by simp) (by omega)
        have e2 : c = nm[0] := e
        have h5 := h3 0 (by omega)
        rw [e2]
        unfold cok at h5
        simp only [decide_eq_false_iff_not]
        omega
theorem nameOk_iff (nm : ByteArray) : nameOk nm.data.toList = true ↔ 1 ≤ nm.size ∧ nm.size ≤ 32 ∧ ∀ k h, cok nm k h :=
  nameOk_list _ nm (by rw [Array.length_toList]; rfl) (fun _ _ _ => rfl)
theorem nameOk_bad {nm : ByteArray} (k : Nat) (h : k < nm.size) (hb : ¬ cok nm k h) : nameOk nm.data.toList = false := by
  rcases Bool.eq_false_or_eq_true (nameOk nm.data.toList) with h1 | h1
  · exact absurd ((nameOk_iff nm).1 h1 |>.2.2 k h) hb
  · exact h1

set_option maxRecDepth 100000 in
set_option maxHeartbeats 8000000 in
theorem fileName_any (nm : ByteArray) (w : World) (hn : nm.size ≤ 1000000000) : Calls Try.prog 29 #[.string nm] w fun e w' => e = .returned (.bool (nameOk nm.data.toList)) ∧ w' = w := by
  have HI := hid (nameOk_iff nm)
  have HBD := hid (fun k h => @nameOk_bad nm k h)
  generalize nameOk nm.data.toList = ans at *
  go_enter Try.func29, Try.ntmps29
  go_wp2_with fail
  go_loopw [8] (fun i wr => ∃ k : Nat, k ≤ nm.size ∧ i = .int .i64 k ∧ wr = w ∧ Hid (∀ j (h : j < nm.size), j < k → cok nm j h)) (fun i _ => nm.size - (intOf i).toNat)
  case atStart => exact ⟨0, by omega, rfl, rfl, fun j h hj => absurd hj (by omega)⟩
  case round =>
    obtain ⟨k, hk, rfl, rfl, HK⟩ := hrel
    by_cases hlt : k < nm.size
    · rcases Nat.eq_zero_or_pos k with h0 | h0
      · subst h0
        go_wp2_with fail
        all_goals first
          | (refine ⟨⟨1, by omega, rfl, ?_⟩, by simp [intOf]; omega⟩
             refine ⟨trivial, fun j h hj => ?_⟩
             obtain rfl : j = 0 := by omega
             unfold cok; omega)
          | (go_ret; exact ⟨ret_bool (HBD.out 0 hlt (by unfold cok; omega)).symm, rfl⟩)
          | (exfalso; rename_i hh; simp at hh; omega)
      · have hk0 : ((k : Int) == 0) = false := by rw [beq_eq_false_iff_ne]; omega
        go_wp2_with fail
        all_goals first
          | (refine ⟨⟨k + 1, by omega, by go_num, ?_⟩, by simp [intOf]; omega⟩
             refine ⟨trivial, fun j h hj => ?_⟩
             rcases Nat.lt_or_ge j k with h1 | h1
             · exact HK.out j h h1
             · obtain rfl : j = k := by omega
               unfold cok; omega)
          | (refine ⟨⟨k + 1, by omega, by go_num, ?_⟩, by simp [intOf]; omega⟩
             refine ⟨trivial, fun j h hj => ?_⟩
             rcases Nat.lt_or_ge j k with h1 | h1
             · exact HK.out j h h1
             · obtain rfl : j = k := by omega
               rename_i hh; simp at hh; unfold cok; omega)
          | (go_ret; exact ⟨ret_bool (HBD.out k hlt (by unfold cok; omega)).symm, rfl⟩)
          | (exfalso; rename_i hh; simp at hh; omega)
    · obtain rfl : k = nm.size := by omega
      have HALL : Hid (∀ j (h : j < nm.size), cok nm j h) := fun j h => HK.out j h h
      rcases Nat.eq_zero_or_pos nm.size with h0 | h0
      · have e : nm = ⟨#[]⟩ := by
          have : nm.data.size = 0 := h0
          cases nm
          simp only at this
          congr
          exact Array.eq_empty_of_size_eq_zero this
        have ha : ans = false := by
          rcases Bool.eq_false_or_eq_true ans with h1 | h1
          · have := (HI.out.1 h1).1; omega
          · exact h1
        subst ha
        subst e
        go_wp2_with fail
        all_goals go_ret
        all_goals exact ⟨rfl, rfl⟩
      · have dn : nm.toList.isEmpty = false := by
          rw [ByteArray.toList_eq]
          have h5 : nm.data.toList.length = nm.size := by rw [Array.length_toList]; rfl
          cases hd : nm.data.toList with
          | nil => rw [hd] at h5; simp at h5; omega
          | cons a l => rfl
        rcases Nat.lt_or_ge 32 nm.size with h1 | h1
        · have ha : ans = false := by
            rcases Bool.eq_false_or_eq_true ans with h2 | h2
            · have := (HI.out.1 h2).2.1; omega
            · exact h2
          subst ha
          go_wp2_with fail
          all_goals go_ret
          all_goals exact ⟨ret_bool (by simp; omega), rfl⟩
        · have ha : ans = true := HI.out.2 ⟨h0, h1, HALL.out⟩
          subst ha
          go_wp2_with fail
          all_goals go_ret
          all_goals exact ⟨ret_bool (by simp; omega), rfl⟩
end Go.Proofs.Ytnncbbfbnccnbaa
