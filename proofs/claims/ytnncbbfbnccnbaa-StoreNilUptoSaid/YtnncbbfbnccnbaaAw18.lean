/- The law's awake: the example holds. -/
import Derived.Test.YtnncbbfbnccnbaaRestart
import Derived.Test.YtnncbbfbnccnbaaSync
import Derived.Test.YtnncbbfbnccnbaaRead
namespace Go.Proofs.Ytnncbbfbnccnbaa
open Go.RowKit Go.Maps Go.Sort
attribute [local go_sem] gives givesUpon

def A0 : Ab := ⟨100, 0, 0, [], false, 0⟩
def A1 : Ab := ⟨100, 0, 0, [⟨[97], [], 0⟩], false, 0⟩
def A2 : Ab := ⟨100, 3, 3, [⟨[97], [97, 98, 99], 0⟩], false, 0⟩
def A3 : Ab := ⟨100, 3, 3, [⟨[97], [97, 98, 99], 3⟩], false, 0⟩
def A4 : Ab := ⟨100, 6, 6, [⟨[97], [97, 98, 99, 100, 101, 102], 3⟩], false, 0⟩
def A5 : Ab := ⟨100, 5, 6, [⟨[97], [97, 98, 99, 100, 101], 5⟩], false, 0⟩
theorem A0_ok : A0.ok := ⟨rfl, by decide, by decide, by intro f hf; simp [A0] at hf; try (subst hf; decide), by decide⟩
theorem A1_ok : A1.ok := ⟨rfl, by decide, by decide, by intro f hf; simp [A1] at hf; try (subst hf; decide), by decide⟩
theorem A2_ok : A2.ok := ⟨rfl, by decide, by decide, by intro f hf; simp [A2] at hf; try (subst hf; decide), by decide⟩
theorem A3_ok : A3.ok := ⟨rfl, by decide, by decide, by intro f hf; simp [A3] at hf; try (subst hf; decide), by decide⟩
theorem A4_ok : A4.ok := ⟨rfl, by decide, by decide, by intro f hf; simp [A4] at hf; try (subst hf; decide), by decide⟩
theorem A5_ok : A5.ok := ⟨rfl, by decide, by decide, by intro f hf; simp [A5] at hf; try (subst hf; decide), by decide⟩
theorem A_create : A0.create [97] = (0, A1) := by rfl
theorem A_append : A1.append [97] [97, 98, 99] = (0, A2) := by rfl
theorem A_sync : A2.sync [97] = (0, A3) := by rfl
theorem A_append2 : A3.append [97] [100, 101, 102] = (0, A4) := by rfl
theorem A_restart : A4.restart 2 = A5 := by rfl
theorem A_read : A5.read [97] 0 9 = ([97, 98, 99, 100, 101], 0, A5) := by rfl
theorem sz_a : (⟨#[97]⟩ : ByteArray).size ≤ 1000000000 := by decide
theorem sz_m : (⟨#[97]⟩ : ByteArray).size ≤ maxLen := by decide
/-- A store with one file, made behind the world w0. -/
def One (w0 : World) (B : Nat) (a : Ab) (w : World) : Prop := ∃ s : St, s.ab = a ∧ s.At w B w0.heap.size ∧ Below w0.heap.size w0 w
theorem One.next {w0 w w' : World} {B : Nat} {s s' : St} (h : s.At w B w0.heap.size) (hb : Below w0.heap.size w0 w) (k : Step w0.heap.size B s s' w w') : One w0 B s'.ab w' :=
  ⟨s', rfl, k.at', hb.trans (k.below h (Nat.le_refl _) hb.size)⟩
theorem One.more {w0 w w' : World} {B : Nat} {a : Ab} (h : One w0 B a w) (k : Below w.heap.size w w') : One w0 B a w' := by
  obtain ⟨s, e, h1, h2⟩ := h
  exact ⟨s, e, h1.below k (Nat.le_refl _), h2.trans (k.mono h2.size)⟩
theorem One.create {w0 w : World} {B : Nat} {a a' : Ab} {n : Int} (h : One w0 B a w) (ok : a.ok) (nm : ByteArray) (hn : nm.size ≤ 1000000000) (e : a.create nm.data.toList = (n, a')) :
    Calls Try.prog 10 #[.pointer (some ⟨B, 0, none⟩), .string nm] w fun e w' => e = .returned (.int .i64 n) ∧ One w0 B a' w' := by
  obtain ⟨s, rfl, h1, h2⟩ := h
  refine (Create_any w B w0.heap.size s nm h1 ok hn h2.size).mono ?_
  rintro e1 w' ⟨s', rfl, h3, h4⟩
  rw [e] at h3 ⊢
  have := One.next h1 h2 h4
  rw [h3] at this
  exact ⟨rfl, this⟩
theorem One.append {w0 w : World} {B : Nat} {a a' : Ab} {n : Int} (h : One w0 B a w) (ok : a.ok) (nm tx : ByteArray) (hn : nm.size ≤ maxLen) (ht : tx.size ≤ 1000000000) (e : a.append nm.data.toList tx.data.toList = (n, a')) :
    Calls Try.prog 12 #[.pointer (some ⟨B, 0, none⟩), .string nm, .string tx] w fun e w' => e = .returned (.int .i64 n) ∧ One w0 B a' w' := by
  obtain ⟨s, rfl, h1, h2⟩ := h
  refine (Append_any w B w0.heap.size s nm tx h1 ok hn ht h2.size).mono ?_
  rintro e1 w' ⟨s', rfl, h3, h4⟩
  rw [e] at h3 ⊢
  have := One.next h1 h2 h4
  rw [h3] at this
  exact ⟨rfl, this⟩
theorem One.sync {w0 w : World} {B : Nat} {a a' : Ab} {n : Int} (h : One w0 B a w) (ok : a.ok) (nm : ByteArray) (hn : nm.size ≤ maxLen) (e : a.sync nm.data.toList = (n, a')) :
    Calls Try.prog 24 #[.pointer (some ⟨B, 0, none⟩), .string nm] w fun e w' => e = .returned (.int .i64 n) ∧ One w0 B a' w' := by
  obtain ⟨s, rfl, h1, h2⟩ := h
  refine (Sync_any w B w0.heap.size s nm h1 ok hn h2.size).mono ?_
  rintro e1 w' ⟨s', rfl, h3, h4⟩
  rw [e] at h3 ⊢
  have := One.next h1 h2 h4
  rw [h3] at this
  exact ⟨rfl, this⟩
theorem One.read {w0 w : World} {B : Nat} {a a' : Ab} {n : Int} {l : List UInt8} (h : One w0 B a w) (ok : a.ok) (nm : ByteArray) (i k : Int) (hi : i ≤ 1000000000000) (hk : k ≤ 9223372036854775807) (hn : nm.size ≤ maxLen) (e : a.read nm.data.toList i k = (l, n, a')) :
    Calls Try.prog 13 #[.pointer (some ⟨B, 0, none⟩), .string nm, .int .i64 i, .int .i64 k] w fun e w' => e = .returned (.tuple #[.string ⟨l.toArray⟩, .int .i64 n]) ∧ One w0 B a' w' := by
  obtain ⟨s, rfl, h1, h2⟩ := h
  refine (Read_any w B w0.heap.size s nm i k (by omega) hk h1 ok hn h2.size).mono ?_
  rintro e1 w' ⟨s', rfl, h3, h4⟩
  rw [e] at h3 ⊢
  have := One.next h1 h2 h4
  rw [h3] at this
  exact ⟨rfl, this⟩
theorem One.restart {w0 w : World} {B : Nat} {a a' : Ab} (h : One w0 B a w) (ok : a.ok) (kept : Nat) (hl : 1 ≤ a.files.length ∧ a.files.length ≤ 1000000) (e : a.restart kept = a') :
    Calls Try.prog 25 #[.pointer (some ⟨B, 0, none⟩), .int .u64 kept] w fun e w' => e = .returned (.tuple #[]) ∧ One w0 B a' w' := by
  obtain ⟨s, rfl, h1, h2⟩ := h
  have hf : s.ab.files.length = s.ents.length := by show (s.ents.map Ent.fl).length = _; rw [List.length_map]
  refine (Restart_any w B w0.heap.size s kept h1 ok (by omega) h2.size).mono ?_
  rintro e1 w' ⟨s', rfl, h3, h4⟩
  rw [e] at h3
  have := One.next h1 h2 h4
  rw [h3] at this
  exact ⟨rfl, this⟩
theorem One.used {w0 w : World} {B : Nat} {a : Ab} (h : One w0 B a w) : Calls Try.prog 20 #[.pointer (some ⟨B, 0, none⟩)] w fun e w' => e = .returned (.int .i64 a.used) ∧ w' = w := by
  obtain ⟨s, rfl, h1, h2⟩ := h
  exact Used_any w B _ s h1
theorem One.peak {w0 w : World} {B : Nat} {a : Ab} (h : One w0 B a w) : Calls Try.prog 21 #[.pointer (some ⟨B, 0, none⟩)] w fun e w' => e = .returned (.int .i64 a.peak) ∧ w' = w := by
  obtain ⟨s, rfl, h1, h2⟩ := h
  exact Peak_any w B _ s h1
theorem One.new (n : Int) (w : World) (hn : 0 ≤ n ∧ n ≤ 262144) : Calls Try.prog 9 #[.int .i64 n] w fun e w' => e = .returned (.pointer (some ⟨w.heap.size + 1, 0, none⟩)) ∧ One w (w.heap.size + 1) ⟨n, 0, 0, [], false, 0⟩ w' := by
  refine (New_any n w).mono ?_
  rintro e w' ⟨rfl, h1, h2⟩
  rw [show min (max n 0) 262144 = n by omega] at h1
  exact ⟨rfl, _, rfl, h1, h2⟩

set_option maxRecDepth 100000 in
set_option maxHeartbeats 4000000 in
theorem awake_any (w : World) : Calls Try.prog 11 #[] w fun e w' => e = .returned (.bool true) ∧ Below w.heap.size w w' := by
  go_enter Try.func11, Try.ntmps11
  go_wp2_with fail
  refine (One.new 100 w (by decide)).mono ?_
  rintro e w1 ⟨rfl, ho⟩
  have HO : Hid (One w (w.heap.size + 1) A0 w1) := ho
  clear ho
  go_wp2_with fail
  refine (HO.out.create A0_ok ⟨#[97]⟩ sz_a A_create).mono ?_
  rintro e w2 ⟨rfl, ho⟩
  clear HO
  have HO := hid ho
  clear ho
  go_wp2_with fail
  refine (HO.out.append A1_ok ⟨#[97]⟩ ⟨#[97, 98, 99]⟩ sz_m (by decide) A_append).mono ?_
  rintro e w3 ⟨rfl, ho⟩
  clear HO
  have HO := hid ho
  clear ho
  go_wp2_with fail
  refine (HO.out.sync A2_ok ⟨#[97]⟩ sz_m A_sync).mono ?_
  rintro e w4 ⟨rfl, ho⟩
  clear HO
  have HO := hid ho
  clear ho
  go_wp2_with fail
  refine (HO.out.append A3_ok ⟨#[97]⟩ ⟨#[100, 101, 102]⟩ sz_m (by decide) A_append2).mono ?_
  rintro e w5 ⟨rfl, ho⟩
  clear HO
  have HO := hid ho
  clear ho
  go_wp2_with fail
  refine (HO.out.restart A4_ok 2 (by decide) A_restart).mono ?_
  rintro e w6 ⟨rfl, ho⟩
  clear HO
  have HO := hid ho
  clear ho
  go_wp2_with fail
  refine (HO.out.read A5_ok ⟨#[97]⟩ 0 9 (by decide) (by decide) sz_m A_read).mono ?_
  rintro e w7 ⟨rfl, ho⟩
  clear HO
  have HO := hid ho
  clear ho
  go_wp2_with fail
  refine HO.out.used.mono ?_
  rintro e w8 ⟨rfl, rfl⟩
  go_wp2_with fail
  refine HO.out.peak.mono ?_
  rintro e w9 ⟨rfl, rfl⟩
  go_wp2_with fail
  go_ret
  obtain ⟨s, -, -, hb⟩ := HO.out
  exact ⟨rfl, hb⟩
end Go.Proofs.Ytnncbbfbnccnbaa
