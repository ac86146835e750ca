/- The program's store: a look-up of a file, and the beginning of an operation on a file. -/
import Derived.Test.YtnncbbfbnccnbaaBegin
namespace Go.Proofs.Ytnncbbfbnccnbaa
open Go.RowKit
attribute [local go_sem] gives givesUpon

def St.find (s : St) (nm : ByteArray) : Option Ent := s.ents.find? fun f => f.name == nm.data.toList
def St.ptr (s : St) (nm : ByteArray) : Option Addr := (s.find nm).map fun f => ⟨f.blk, 0, none⟩
theorem atKey_toD (nm : ByteArray) : ∀ (ents : List Ent), (toD ents).atKey (.string nm.data.toList) .nil = match ents.find? (fun f => f.name == nm.data.toList) with | some f => .lit (.int .i64 f.blk) | none => .nil
  | [] => rfl
  | f :: fs => by
    have ih := atKey_toD nm fs
    unfold toD DataW.atKey at ih ⊢
    simp only [List.map_cons, List.find?_cons] at ih ⊢
    have e : (f.item.1.sameKey (.string nm.data.toList)) = (f.name == nm.data.toList) := rfl
    rw [e]
    cases (f.name == nm.data.toList) with
    | true => rfl
    | false => exact ih
theorem St.At.look {w : World} {B base : Nat} {s : St} (h : s.At w B base) (nm : ByteArray) (hn : nm.size ≤ maxLen) :
    (Instr.lookup 45 (.map (some s.mp)) (.string nm) false).run Try.prog w = .ok (.pointer (s.ptr nm)) w := by
  have hz : (zeroValue 60).run Try.prog w = .ok (.pointer none) w := by kernel_rfl
  obtain ⟨v, ps, hr, hv⟩ := h.map.lookup strK Try.underlying45 hz ptrElem_nil (Go.WideMaps.keyOf_string_mk Try.underlying9 hn)
  rw [hr]
  rw [atKey_toD] at hv
  unfold St.ptr St.find
  cases hf : s.ents.find? (fun f => f.name == nm.data.toList) with
  | none =>
    rw [hf] at hv
    rw [ptrElem_nil_inv hv]
    rfl
  | some f =>
    rw [hf] at hv
    rw [ptrElem_inv hv]
    rfl
theorem St.began_mp (s : St) : s.began.mp = s.mp := by unfold St.began; split; rfl; split; rfl; split <;> rfl
theorem St.began_ents (s : St) : s.began.ents = s.ents := by unfold St.began; split; rfl; split; rfl; split <;> rfl
theorem St.began_find (s : St) (nm : ByteArray) : s.began.find nm = s.find nm := by unfold St.find; rw [St.began_ents]
theorem St.began_ptr (s : St) (nm : ByteArray) : s.began.ptr nm = s.ptr nm := by unfold St.ptr; rw [St.began_find]
/-- What open hands back. -/
def St.opened (s : St) (nm : ByteArray) : Value := if s.began.crash = true then .tuple #[.pointer none, .int .i64 19] else match s.find nm with
  | none => .tuple #[.pointer none, .int .i64 5]
  | some f => .tuple #[.pointer (some ⟨f.blk, 0, none⟩), .int .i64 0]

set_option maxHeartbeats 2000000 in
theorem open_any (w : World) (B base : Nat) (s : St) (nm : ByteArray) (h : s.At w B base) (hc : 0 ≤ s.count ∧ s.count ≤ 9223372036854775807) (hn : nm.size ≤ maxLen) :
    Calls Try.prog 30 #[.pointer (some ⟨B, 0, none⟩), .string nm] w fun e w' => e = .returned (s.opened nm) ∧ Step base B s s.began w w' := by
  have HB := hid (begin_any w B base s h hc)
  have HP := hid (St.began_ptr s nm)
  clear hc
  have HO : Hid (s.opened nm = if s.began.crash = true then .tuple #[.pointer none, .int .i64 19] else match s.find nm with | none => .tuple #[.pointer none, .int .i64 5] | some f => .tuple #[.pointer (some ⟨f.blk, 0, none⟩), .int .i64 0]) := rfl
  generalize s.opened nm = ov at *
  generalize hb : s.began = s1 at *
  have HPT : Hid (s.ptr nm = (s.find nm).map fun f => ⟨f.blk, 0, none⟩) := rfl
  generalize s.ptr nm = pt at *
  generalize s.find nm = fd at *
  clear hb h
  obtain ⟨limit, used, peak, mp, ents, crash, count⟩ := s1
  go_enter Try.func30, Try.ntmps30
  go_wp2_with fail
  refine HB.out.mono ?_
  rintro e w1 ⟨rfl, hs1⟩
  have HS := hid hs1
  clear hs1 HB
  have q := HS.out.at'.six
  have hlk := HS.out.at'.look nm hn
  simp only at q hlk
  rw [HP.out] at hlk
  rcases Bool.eq_false_or_eq_true crash with rfl | rfl
  · go_wp2_with fail
    all_goals go_ret2
    all_goals
      refine ⟨?_, HS.out⟩
      rw [HO.out]
      rfl
  · cases fd with
    | none =>
      have ep : pt = none := HPT.out
      subst ep
      go_wp2_with fail
      all_goals go_ret2
      all_goals
        refine ⟨?_, HS.out⟩
        rw [HO.out]
        rfl
    | some f =>
      have ep : pt = some ⟨f.blk, 0, none⟩ := HPT.out
      subst ep
      go_wp2_with fail
      all_goals go_ret2
      all_goals
        refine ⟨?_, HS.out⟩
        rw [HO.out]
        rfl
end Go.Proofs.Ytnncbbfbnccnbaa
