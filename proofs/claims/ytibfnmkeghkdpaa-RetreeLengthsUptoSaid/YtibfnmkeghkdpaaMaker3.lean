/- The law's maker: all. -/
import Derived.Test.YtibfnmkeghkdpaaMaker2
namespace Go.Proofs.Ytibfnmkeghkdpaa
open Go.RowKit
attribute [local go_sem] gives givesUpon

/-- What make gives. -/
def MPost (Z : MK) (w : World) (f : Facts) (left : Int) (e : Ending) (w' : World) : Prop :=
  ∃ (s : ByteArray) (ok : Bool) (l2 : Int), e = .returned (.tuple #[.string s, .bool ok]) ∧ (ok = true → Fit f s.data.toList ∧ 0 ≤ l2 ∧ (s.size : Int) + 100 * l2 ≤ 100 * left) ∧ (-1 ≤ l2 ∧ l2 < left) ∧ But [Z.mb, Z.tb, Z.gb] w w' ∧ MAt Z w' l2
/-- What all gives. -/
def APost (Z : MK) (w : World) (f : Facts) (left : Int) (e : Ending) (w' : World) : Prop :=
  ∃ (s : ByteArray) (ok : Bool) (l2 : Int), e = .returned (.tuple #[.string s, .bool ok]) ∧ (ok = true → Fit f s.data.toList ∧ 0 ≤ l2 ∧ (s.size : Int) + 100 * l2 ≤ 100 * left) ∧ (-1 ≤ l2 ∧ l2 ≤ left) ∧ But [Z.mb, Z.tb, Z.gb] w w' ∧ MAt Z w' l2
theorem fold_least {l : List Facts} (h : ∀ f, f ∈ l → 0 ≤ f.least) : 0 ≤ (l.foldl Facts.cat Facts.empty).least :=
  foldl_least _ (fun _a _b ha hb => lsum_nonneg ha hb) l Facts.empty (Int.le_refl 0) h

-- def R9 := [.int .i64 p'.op, .int .u64 p'.set.a, .int .u64 p'.set.b, .int .u64 p'.set.c, .int .u64 p'.set.d, .int .i64 p'.lo, .int .i64 p'.hi, .int .i64 p'.gr, .slice ad1 n1 cap1]
set_option maxRecDepth 100000 in
set_option maxHeartbeats 4000000 in
theorem all_any {Z : MK} {wb : World} (ys : List Re) (ad : Option Addr) (cap : Nat) (w : World) (left : Int) (hbw : Below wb.heap.size wb w) (hz : Z.ok wb) (hM : MAt Z w left) (hl : 0 ≤ left ∧ left ≤ 600)
    (hel : ∀ k x, ys[k]? = some x → ∃ (b o : Nat) (cs : List Value), ad = some ⟨b, o, none⟩ ∧ CellsAt w b (o + k * 9) cs ∧ x.In wb cs ∧ b ≠ Z.mb ∧ b ≠ Z.tb ∧ b ≠ Z.gb) (hlen : ys.length ≤ 1048576) (hle : ∀ x, x ∈ ys → 0 ≤ (x.fac Z.G).least)
    (hmake : ∀ x, x ∈ ys → ∀ (w : World) (cs : List Value) (left : Int), x.In wb cs → Below wb.heap.size wb w → MAt Z w left → 0 ≤ left → left ≤ 600 → Calls Try.prog 28 #[.pointer (some ⟨Z.mb, 0, none⟩), .agg cs.toArray] w (MPost Z w (x.fac Z.G) left)) :
    Calls Try.prog 52 #[.pointer (some ⟨Z.mb, 0, none⟩), .slice ad ys.length cap] w (APost Z w ((ys.map (Re.fac Z.G)).foldl Facts.cat Facts.empty) left) := by
  obtain ⟨hl0, hl6⟩ := hl
  have HBW := hid hbw
  have HM := hid hM
  have HEL := hid hel
  have HLE := hid hle
  have HMK := hid hmake
  have HZ := hid hz
  clear hbw hM hel hle hmake hz
  go_enter Try.func52, Try.ntmps52
  go_wp2_with fail
  go_loopw [6, 7] (fun v i wr => ∃ (k : Nat) (s : ByteArray) (l : Int), k ≤ ys.length ∧ v = .string s ∧ i = .int .i64 k ∧ (0 ≤ l ∧ l ≤ left ∧ (s.size : Int) + 100 * l ≤ 100 * left) ∧ Hid (Fit (((ys.map (Re.fac Z.G)).take k).foldl Facts.cat Facts.empty) s.data.toList) ∧ Hid (MAt Z wr l ∧ But [Z.mb, Z.tb, Z.gb] w wr)) (fun _ i _ => ys.length - (intOf i).toNat)
  case atStart => exact ⟨0, ⟨#[]⟩, left, by omega, rfl, rfl, ⟨hl0, Int.le_refl _, by show ((0 : Nat) : Int) + _ ≤ _; omega⟩, Fit.empty, HM.out, But.refl _ _⟩
  case round =>
    obtain ⟨k, s, l, hk, rfl, rfl, ⟨hb1, hb2, hb3⟩, HF, HX⟩ := hrel
    by_cases hlt : k < ys.length
    · obtain ⟨b, o, cs, rfl, hc, hin, hn1, hn2, hn3⟩ := HEL.out k ys[k] (by simp [hlt])
      obtain ⟨p', ad1, n1, cap1, rfl⟩ := Re.cells_shape hin
      have HC := hid (hc.but HX.out.2 (by simp; exact ⟨hn1, hn2, hn3⟩))
      have HBR := hid (HBW.out.trans (HX.out.2.below (n := wb.heap.size) HBW.out.size (fun j hj => by
        simp only [List.mem_cons, List.not_mem_nil, or_false] at hj
        rcases hj with h | h | h
        · rw [h]; exact HZ.out.m
        · rw [h]; exact HZ.out.t
        · rw [h]; exact HZ.out.g)))
      have HCA := hid (HMK.out ys[k] (by simp) wr _ l hin HBR.out HX.out.1 hb1 (by omega))
      have hfk := HLE.out ys[k] (by simp)
      have HTK := hid (show ((ys.map (Re.fac Z.G)).take (k + 1)).foldl Facts.cat Facts.empty = (((ys.map (Re.fac Z.G)).take k).foldl Facts.cat Facts.empty).cat (ys[k].fac Z.G) by
        rw [List.take_add_one, List.getElem?_map, List.getElem?_eq_getElem hlt, List.foldl_append]; rfl)
      have hfa : 0 ≤ (((ys.map (Re.fac Z.G)).take k).foldl Facts.cat Facts.empty).least := fold_least fun f hf => by
        obtain ⟨x, hx, rfl⟩ := List.mem_map.1 (List.mem_of_mem_take hf)
        exact HLE.out x hx
      have HFK := hid (And.intro hfk hfa)
      clear hc hin hfk hfa hn1 hn2 hn3
      go_wp2_with (first | (with_reducible (refine wpList_load_agg rfl 28 _ rfl b (o + (k * 9)) rfl _ _ HC.out Try.underlying28 rfl (size_re9 _ _ _ _ _ _ _ _ _) ?_)))
      refine HCA.out.mono ?_
      unfold MPost
      rintro e w2 ⟨s1, ok, l2, rfl, h1, ⟨h2, h3⟩, h4, h5⟩
      have H1 := hid h1
      have H45 := hid (And.intro (HX.out.2.trans h4) h5)
      clear h1 h4 h5 HCA
      cases ok
      · go_wp2_with fail
        all_goals go_ret2
        all_goals
          unfold APost
          exact ⟨_, false, l2, rfl, (fun h => by cases h), by omega, H45.out⟩
      · rcases (show decide ((1000 : Int) < (s.size : Int)) = true ∨ decide ((1000 : Int) < (s.size : Int)) = false by cases decide ((1000 : Int) < (s.size : Int)) <;> simp) with d1 | d1
        · go_wp2_with fail
          all_goals go_ret2
          all_goals
            unfold APost
            exact ⟨_, false, l2, rfl, (fun h => by cases h), by omega, H45.out⟩
        · have hsum : s.size + s1.size ≤ 200000 := by
            obtain ⟨g1, g2, g3⟩ := H1.out (by simp)
            omega
          go_wp2_with fail
          go_roundw
          case rel =>
            obtain ⟨g1, g2, g3⟩ := H1.out (by simp)
            refine ⟨k + 1, s ++ s1, l2, by omega, rfl, by go_num, ⟨g2, by omega, by rw [ByteArray.size_append]; omega⟩, ?_, H45.out.2, H45.out.1⟩
            show Fit _ _
            rw [HTK.out]
            have e : (s ++ s1).data.toList = s.data.toList ++ s1.data.toList := by simp
            rw [e]
            refine HF.out.cat g1 HFK.out.2 HFK.out.1 ?_
            have e1 : s.data.toList.length = s.size := rfl
            have e2 : s1.data.toList.length = s1.size := rfl
            rw [e1, e2]
            omega
          case measure => simp [intOf]; omega
    · obtain rfl : k = ys.length := by omega
      go_wp2_with fail
      all_goals go_ret2
      all_goals
        unfold APost
        refine ⟨s, true, l, rfl, (fun _ => ⟨?_, hb1, by omega⟩), by omega, HX.out.2, HX.out.1⟩
        have h := HF.out
        rw [List.take_of_length_le (by simp)] at h
        exact h
end Go.Proofs.Ytibfnmkeghkdpaa
