/- The law StoreParts: its walk answers true. -/
import Derived.Test.YtnncbbfbnccnbaaAw18
namespace Go.Proofs.Ytnncbbfbnccnbaa
open Go.RowKit Go.Maps Go.Sort
attribute [local go_sem] gives givesUpon

/-- A slice of strings that came in. -/
def StrAt (w : World) (a : Option Addr) (l : List ByteArray) : Prop := l = [] ∨ ∃ b o, a = some ⟨b, o, none⟩ ∧ b < w.heap.size ∧ ∀ i (h : i < l.length), w.cell? ⟨b, o + i, none⟩ = some (.string l[i])
theorem StrAt.below {w w' : World} {a : Option Addr} {l : List ByteArray} (h : StrAt w a l) (hb : Below w.heap.size w w') : StrAt w' a l := by
  rcases h with h | ⟨b, o, rfl, h1, h2⟩
  · exact .inl h
  · exact .inr ⟨b, o, rfl, Nat.lt_of_lt_of_le h1 hb.size, fun i hi => by rw [hb.cell (p := ⟨b, o + i, none⟩) h1]; exact h2 i hi⟩
/-- The store of the law: one file of these bytes. -/
def PA (A : List UInt8) : Ab := ⟨262144, A.length, A.length, [⟨[97], A, 0⟩], false, 0⟩
theorem PA_ok {A : List UInt8} (h : A.length ≤ 262144) : (PA A).ok := by
  refine ⟨?_, ?_, ?_, ?_, ?_⟩
  · show (A.length : Int) = ((A.length + 0 : Nat) : Int)
    rfl
  · show (A.length : Int) ≤ 262144 ∧ (262144 : Int) ≤ 262144
    omega
  · show (A.length : Int) ≤ A.length ∧ (A.length : Int) ≤ 262144
    omega
  · intro f hf
    have : f = ⟨[97], A, 0⟩ := by simpa [PA] using hf
    subst this
    show (0 : Int) ≤ 0 ∧ (0 : Int) ≤ A.length
    omega
  · show (0 : Int) ≤ 0 ∧ (0 : Int) ≤ 9223372036854775807
    omega
theorem PA_create : Ab.create ⟨262144, 0, 0, [], false, 0⟩ [97] = (0, PA []) := by rfl
theorem PA_append {A B : List UInt8} (h : A.length + B.length ≤ 262144) : (PA A).append [97] B = (0, PA (A ++ B)) := by
  have e : (PA A).append [97] B = if (262144 : Int) < A.length + B.length then (12, PA A) else (0, ⟨262144, A.length + B.length, max (A.length : Int) (A.length + B.length), [⟨[97], A ++ B, 0⟩], false, 0⟩) := rfl
  rw [e, if_neg (by omega), show max (A.length : Int) (A.length + B.length) = A.length + B.length by omega]
  unfold PA
  simp
theorem PA_read {A : List UInt8} (k n : Nat) (h : k ≤ A.length) : (PA A).read [97] k n = ((A.drop k).take n, 0, PA A) := by
  have e : (PA A).read [97] k n = if (k : Int) < 0 ∨ (A.length : Int) < k ∨ (n : Int) < 0 then ([], 2, PA A) else ((A.drop (k : Int).toNat).take (n : Int).toNat, 0, PA A) := rfl
  rw [e, if_neg (by omega)]
  rfl
theorem PA_out {A : List UInt8} : (PA A).read [97] (A.length + 1 : Nat) 1 = ([], 2, PA A) := by
  have e : (PA A).read [97] (A.length + 1 : Nat) 1 = if ((A.length + 1 : Nat) : Int) < 0 ∨ (A.length : Int) < (A.length + 1 : Nat) ∨ (1 : Int) < 0 then ([], 2, PA A) else ((A.drop ((A.length + 1 : Nat) : Int).toNat).take (1 : Int).toNat, 0, PA A) := rfl
  rw [e, if_pos (by omega)]

theorem part_text (A : ByteArray) (j part : Nat) (hj : j ≤ A.size) : (A.extract j (min (A.size : Int) ((j : Int) + (1 + (part : Int)))).toNat).toList = (A.data.toList.drop j).take (1 + part) := by
  have hal : A.data.toList.length = A.size := BA_len A
  rw [ByteArray.toList_eq, ByteArray.data_extract, Array.toList_extract]
  show (A.data.toList.drop j).take _ = _
  rcases Nat.lt_or_ge A.size (j + (1 + part)) with h | h
  · rw [List.take_of_length_le (by rw [List.length_drop]; omega), List.take_of_length_le (by rw [List.length_drop]; omega)]
  · congr 1
    omega
set_option maxRecDepth 100000 in
set_option maxHeartbeats 4000000 in
theorem LawParts_any (w : World) (a : Option Addr) (cap : Nat) (l : List ByteArray) (part : Nat) (hl : StrAt w a l) (hn : l.length ≤ 4611686018427387904) (hp : part < 256) :
    Calls Try.prog 3 #[.slice a l.length cap, .int .u8 part] w fun e w' => e = .returned (.bool true) ∧ Below w.heap.size w w' := by
  have HL := hid hl
  clear hl
  go_enter Try.func3, Try.ntmps3
  go_wp2_with fail
  refine (One.new 262144 w (by decide)).mono ?_
  rintro e w1 ⟨rfl, ho⟩
  have HO := hid ho
  clear ho
  go_wp2_with fail
  refine (HO.out.create ⟨rfl, by decide, by decide, by intro f hf; simp at hf, by decide⟩ ⟨#[97]⟩ sz_a PA_create).mono ?_
  rintro e w2 ⟨rfl, ho⟩
  clear HO
  have HO := hid ho
  clear ho
  go_wp2_with fail
  go_loopw [6, 7] (fun al i wr => ∃ (k : Nat) (A : ByteArray), k ≤ l.length ∧ al = .string A ∧ i = .int .i64 k ∧ A.size ≤ 300 * k ∧ k ≤ 20 ∧ Hid (One w (w.heap.size + 1) (PA A.data.toList) wr)) (fun _ i _ => l.length - (intOf i).toNat)
  case atStart => exact ⟨0, ⟨#[]⟩, by omega, rfl, rfl, by decide, by omega, HO.out⟩
  case round =>
    obtain ⟨k, A, hk, rfl, rfl, hA, hk20, HX⟩ := hrel
    have hbw : Below w.heap.size w wr := by obtain ⟨s, -, -, hb⟩ := HX.out; exact hb
    have HB := hid hbw
    clear hbw
    rcases Nat.lt_or_ge k l.length with hlt | hge
    · obtain ⟨b, o, rfl, hb, hc⟩ : ∃ b o, a = some ⟨b, o, none⟩ ∧ b < wr.heap.size ∧ ∀ i (h : i < l.length), wr.cell? ⟨b, o + i, none⟩ = some (.string l[i]) := by
        rcases HL.out.below HB.out with h | h
        · rw [h] at hlt; cases hlt
        · exact h
      have hck := hc k hlt
      have hkeep : ∀ x, Below w.heap.size w x → x.cell? ⟨b, o + k, none⟩ = some (.string l[k]) := by
        intro x hx
        rcases HL.out.below hx with h | ⟨b', o', e1, h1, h2⟩
        · rw [h] at hlt; cases hlt
        · injection e1 with e1
          injection e1 with e1 e2
          subst e1 e2
          exact h2 k hlt
      have HKEEP := hid hkeep
      clear hkeep
      generalize l[k] = tx at *
      clear hc
      rcases Nat.lt_or_ge k 20 with h20 | h20
      · rcases Nat.lt_or_ge 300 tx.size with h3 | h3
        · go_wp2_with fail
          refine (awake_any _).mono ?_
          rintro e wz ⟨rfl, hbz⟩
          have HZ := hid (HB.out.trans (hbz.mono HB.out.size))
          clear hbz
          go_wp2_with fail
          go_ret
          exact ⟨rfl, HZ.out⟩
        · have htl : tx.data.toList.length = tx.size := BA_len tx
          have hal : A.data.toList.length = A.size := BA_len A
          have hst := HX.out.append (PA_ok (by omega)) ⟨#[97]⟩ tx sz_m (by omega) (PA_append (by omega))
          have HST := hid hst
          clear hst htl hal
          go_wp2_with fail
          refine HST.out.mono ?_
          rintro e w3 ⟨rfl, ho⟩
          have hbw : Below w.heap.size w w3 := by obtain ⟨s, -, -, hb⟩ := ho; exact hb
          have hck3 := HKEEP.out w3 hbw
          have HO := hid ho
          clear ho HST HX hck HB
          go_wp2_with fail
          refine ⟨⟨k + 1, A ++ tx, by omega, rfl, by go_num, by rw [ByteArray.size_append]; omega, by omega, ?_⟩, by simp [intOf]; omega⟩
          rw [ByteArray.data_append, Array.toList_append]
          exact HO.out
      · go_wp2_with fail
        refine (awake_any _).mono ?_
        rintro e wz ⟨rfl, hbz⟩
        have HZ := hid (HB.out.trans (hbz.mono HB.out.size))
        clear hbz
        go_wp2_with fail
        go_ret
        exact ⟨rfl, HZ.out⟩
    · obtain rfl : k = l.length := by omega
      have hal : A.data.toList.length = A.size := BA_len A
      have HAL := hid hal
      clear hal HB
      go_wp2_with fail
      go_loopw [9] (fun i wr => ∃ j : Nat, j ≤ A.size + 256 ∧ i = .int .i64 j ∧ Hid (One w (w.heap.size + 1) (PA A.data.toList) wr)) (fun i _ => A.size + 256 - (intOf i).toNat)
      case atStart => exact ⟨0, by omega, rfl, HX.out⟩
      case round =>
        obtain ⟨j, hj, rfl, HO⟩ := hrel
        rcases Nat.lt_or_ge A.size j with hgt | hle
        · have hst := HO.out.read (PA_ok (by have := HAL.out; omega)) ⟨#[97]⟩ (A.data.toList.length + 1 : Nat) 1 (by have := HAL.out; omega) (by decide) sz_m PA_out
          rw [HAL.out, show ((A.size + 1 : Nat) : Int) = (A.size : Int) + 1 by omega] at hst
          have HST := hid hst
          clear hst
          go_wp2_with fail
          refine HST.out.mono ?_
          rintro e w3 ⟨rfl, ho⟩
          have hbw : Below w.heap.size w w3 := by obtain ⟨s, -, -, hb⟩ := ho; exact hb
          have HB := hid hbw
          clear ho hbw HST HO
          go_wp2_with fail
          refine (awake_any _).mono ?_
          rintro e wz ⟨rfl, hbz⟩
          have HZ := hid (HB.out.trans (hbz.mono HB.out.size))
          clear hbz
          go_wp2_with fail
          go_ret
          exact ⟨rfl, HZ.out⟩
        · have hst := HO.out.read (PA_ok (by have := HAL.out; omega)) ⟨#[97]⟩ j (1 + part : Nat) (by omega) (by omega) sz_m (PA_read j (1 + part) (by have := HAL.out; omega))
          rw [show ((1 + part : Nat) : Int) = 1 + (part : Int) by omega] at hst
          have HST := hid hst
          clear hst
          go_wp2_with fail
          refine HST.out.mono ?_
          rintro e w3 ⟨rfl, ho⟩
          have HO := hid ho
          clear ho HST
          have hxe := part_text A j part hle
          have hpos : (1 : Int) + part ≤ 256 := by omega
          go_wp2_with fail
          refine ⟨⟨j + (1 + part), by omega, by go_num, HO.out⟩, by simp [intOf]; omega⟩
end Go.Proofs.Ytnncbbfbnccnbaa
