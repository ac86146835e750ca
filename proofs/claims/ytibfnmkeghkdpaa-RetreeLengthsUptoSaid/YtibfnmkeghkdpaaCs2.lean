/- The list of a set's bytes. -/
import Derived.Test.YtibfnmkeghkdpaaCs
namespace Go.Proofs.Ytibfnmkeghkdpaa
open Go.RowKit

def Cs.nums (s : Cs) (k : Nat) : List Int := ((List.range k).filter s.has).map Int.ofNat
theorem Cs.nums_succ (s : Cs) (k : Nat) : s.nums (k + 1) = s.nums k ++ if s.has k then [(k : Int)] else [] := by
  unfold Cs.nums
  rw [List.range_succ, List.filter_append, List.map_append]
  by_cases h : s.has k <;> simp [h]
theorem Cs.nums_le (s : Cs) (k : Nat) : (s.nums k).length ≤ k := by
  unfold Cs.nums
  rw [List.length_map]
  exact Nat.le_trans (List.length_filter_le _ _) (by simp)
/-- The bytes of a set, in ascending order. -/
def Cs.str (s : Cs) : ByteArray := strOfNums (s.nums 256)

theorem info_u8 : (Try.prog.info? 5).map (fun i => (i.zero, i.size, i.bytes)) = some (some (.int .u8 0), 1, 1) := by kernel_rfl

set_option maxRecDepth 100000 in
set_option maxHeartbeats 1000000 in
theorem List_any (s : Cs) (w : World) (hs : s.wf) :
    Calls Try.prog 50 #[.agg #[.int .u64 s.a, .int .u64 s.b, .int .u64 s.c, .int .u64 s.d]] w fun e w' => e = .returned (.string s.str) ∧ Below w.heap.size w w' := by
  obtain ⟨i0, hi, hz0, hz1, hz2⟩ := info_parts info_u8
  go_enter Try.func50, Try.ntmps50
  go_wp2
  go_loopw [3, 4] (fun v i wr => ∃ (k : Nat), k ≤ 256 ∧ i = .int .i64 k ∧ Hid (wr.ownsRow (w.heap.size + 1) 5 1 v (s.nums k).length ((s.nums k).map (.int .u8)) ∧ Row wr w.heap.size [.int .u64 s.a, .int .u64 s.b, .int .u64 s.c, .int .u64 s.d] 25 ∧ Below w.heap.size w wr) ∧ w.heap.size + 1 ≤ wr.heap.size) (fun _ i _ => 256 - (intOf i).toNat)
  case atStart => exact ⟨0, by omega, rfl, ⟨World.ownsRow_nil _ _ _ _, Row.new (cs := [_, _, _, _]) rfl, (Below.refl _ w).alloc (Nat.le_refl _) _⟩, by simp⟩
  case round =>
    obtain ⟨k, hk, rfl, HX, hsz⟩ := hrel
    have p1 := HX.out.2.1.c4
    have hle := s.nums_le k
    by_cases hlt : k < 256
    · have hw8 : IntKind.u8.wrap (k : Int) = k := by rw [IntKind.wrap_u8]; omega
      have HN := hid (s.nums_succ k)
      have HA := hid (fun x => Has_any s k x hs hlt)
      go_wp2_with fail
      refine (HA.out _).mono ?_
      generalize hb : s.has k = b at *
      rintro e w1 ⟨rfl, hbe⟩
      have hown : Hid (w1.ownsRow (w.heap.size + 1) 5 1 u3 (s.nums k).length ((s.nums k).map (.int .u8))) := HX.out.1.kept (row := none) ⟨hbe.os, hbe.tape, hbe.output, hbe.size, fun j hj _ => hbe.block j hj⟩ (by cases h : u3.ownBlock <;> simp)
      have hr : Hid (Row w1 w.heap.size [.int .u64 s.a, .int .u64 s.b, .int .u64 s.c, .int .u64 s.d] 25) := HX.out.2.1.below hbe HX.out.2.1.lt
      have hbw : Hid (Below w.heap.size w w1) := HX.out.2.2.trans (hbe.mono (by omega))
      have hsz1 : w.heap.size + 1 ≤ w1.heap.size := Nat.le_trans hsz hbe.size
      clear HA HX hbe hb hsz
      cases b
      · go_wp2_with fail
        go_roundw
        case rel =>
          refine ⟨k + 1, by omega, by go_num, ⟨?_, hr.out, hbw.out⟩, hsz1⟩
          rw [HN.out]; simpa using hown.out
        case measure => simp [intOf]; omega
      · go_wp2_with (at_builtin; refine wpList_append_own _ rfl _ _ 80 rfl (w.heap.size + 1) 5 i0 (.int .u8 0) 1 1 Try.underlying80 hi hz0 hz1 hz2 rfl (by decide) _ _ _ rfl (hown.out.alloc _) ⟨w1.heap.size, 0, none⟩ 1 1 [.int .u8 k] rfl rfl ?c1 ?c2 ?c3 ?c4 ?c5 ?_)
        case c1 => exact cell_one_new _ _ _
        case c2 => intro u hu; simp at hu; subst hu; rfl
        case c3 => unfold maxLen; omega
        case c4 => omega
        case c5 => simp; omega
        · intro v' w2 hown' hgrow _
          have hr' := hid (hr.out.alloc (.cells #[.int .u8 k] 5))
          have hown2 := hid hown'
          have hgrow2 := hid hgrow
          clear hown' hgrow
          go_wp2_with fail
          go_roundw
          case rel =>
            refine ⟨k + 1, by omega, by go_num, ⟨?_, ?_, ?_⟩, ?_⟩
            · rw [HN.out]; simpa using hown2.out
            · unfold Row
              rw [hgrow2.out.block _ (by have := hr'.out.lt; simpa using this) ?_]
              · exact hr'.out
              · intro e
                have := (hown.out.alloc (.cells #[.int .u8 k] 5)).lt w.heap.size e.symm
                omega
            · exact (hbw.out.alloc (by omega) _).grown hgrow2.out (by simp; omega) (fun j hj => by have := ((hown.out.alloc (.cells #[.int .u8 k] 5)).lt j hj).1; omega)
            · have := hgrow2.out.size; simp at this; omega
          case measure => simp [intOf]; omega
    · obtain rfl : k = 256 := by omega
      obtain ⟨hlen, ho⟩ := HX.out.1
      rcases ho with ⟨rfl, h0⟩ | ⟨g, cap, cur, rfl, hg, hcur, hnc, hcm, hsz2, hx⟩
      · have hconv := fun x : World => run_convert_bytes_nil (P := Try.prog) x 80 5 Try.underlying80 Try.underlying5 0 0 9 Try.underlying9
        go_wp2_with fail
        go_ret
        have e : s.str = ByteArray.empty := by
          unfold Cs.str
          rw [List.eq_nil_of_length_eq_zero h0]; rfl
        exact ⟨by rw [e]; rfl, HX.out.2.2⟩
      · have hconv := run_convert_bytes_arg (P := Try.prog) wr 80 5 Try.underlying80 Try.underlying5 g 0 (s.nums 256).length cap (s.nums 256) rfl (fun j hj => by
          have hc := (World.ownsRow.cellAt HX.out.1 j (by omega))
          rw [Nat.zero_add, hc]
          simp [List.getD, hj]) 9 Try.underlying9
        go_wp2_with fail
        go_ret
        exact ⟨rfl, HX.out.2.2⟩
end Go.Proofs.Ytibfnmkeghkdpaa
