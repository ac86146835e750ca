/- The reference's question on names. -/
import Derived.Test.YthnpbopnpdlmnaaX06
import Derived.Test.YthnpbopnpdlmnaaX03
import Derived.Test.YthnpbopnpdlmnaaX04
import Derived.Deep.DeepCutAuto
import Derived.Deep.CutBlock
import Derived.RegionTactic
import Derived.ChangeAlike
import Derived.BigRegion
import Derived.Deep.QuietTactic
import Derived.BigQuiet
namespace Go.Proofs.Ythnpbopnpdlmnaa
open Go.RowKit

theorem info_int : (Try.prog.info? 3).map (fun i => (i.zero, i.size, i.bytes)) = some (some (.int .i64 0), 1, 8) := by kernel_rfl

def OwnInts (w : World) (base : Nat) (v : Value) (l : List Int) : Prop := w.ownsRow base 3 1 v l.length (l.map (Value.int .i64))
def own (v : Value) : List Nat := match v.ownBlock with | some g => [g] | none => []

set_option maxHeartbeats 1000000 in
theorem hasRef_any (base : Nat) (v : Value) (l : List Int) (n : Int) (w : World) (h : OwnInts w base v l) (hl : l.length ≤ 1048577) :
    Calls Try.prog 47 #[v, .int .i64 n] w fun e w' => e = .returned (.bool (decide (n ∈ l))) ∧ w = w' := by
  obtain ⟨hlen, ho⟩ := h
  rcases ho with ⟨rfl, h0⟩ | ⟨g, cap, cur, rfl, hg, hcur, hnc, hcm, hsz, hx⟩
  · obtain rfl : l = [] := List.eq_nil_of_length_eq_zero h0
    go_enter Try.func47, Try.ntmps47
    go_wp2_with fail
    refine wp_loop_rounds 1 ?_
    rw [rounds_succ]
    go_wp2_with fail
    go_ret
    exact ⟨rfl, rfl⟩
  · have hcell : Hid (∀ i, i < l.length → w.cell? ⟨g, i, none⟩ = some (.int .i64 (l.getD i 0))) := fun i hi => by
      have hw : w.ownsRow base 3 1 (.slice (some ⟨g, 0, none⟩) l.length cap) l.length (l.map (Value.int .i64)) := ⟨hlen, .inr ⟨g, cap, cur, rfl, hg, hcur, hnc, hcm, hsz, hx⟩⟩
      rw [hw.cellAt i (by omega)]
      simp [List.getD, hi]
    clear hcur hx hlen hsz
    go_enter Try.func47, Try.ntmps47
    go_wp2_with fail
    go_loop [5] (fun i => ∃ k : Nat, k ≤ l.length ∧ i = .int .i64 k ∧ Hid (n ∉ l.take k)) (fun i => l.length - (intOf i).toNat)
    case atStart => exact ⟨0, by omega, rfl, by show n ∉ _; simp⟩
    case round =>
      obtain ⟨k, hk, rfl, hn⟩ := hrel
      by_cases hlt : k < l.length
      · have hc := hcell.out k hlt
        have hts : Hid (l.take (k + 1) = l.take k ++ [l[k]]) := List.take_succ_eq_append_getElem hlt
        have he : l.getD k 0 = l[k] := by simp [List.getD, hlt]
        rw [he] at hc
        clear he
        have hmem : Hid (l[k] ∈ l) := List.getElem_mem hlt
        rcases (show (l[k] == n) = true ∨ (l[k] == n) = false by cases (l[k] == n) <;> simp) with hb | hb
        · have HB := hid hb
          go_wp2_with fail
          go_ret
          refine ⟨ret_bool ?_, rfl⟩
          have := HB.out
          simp at this
          have h2 := hmem.out
          rw [this] at h2
          simp [h2]
        · have HB := hid hb
          go_wp2_with fail
          go_round
          case rel =>
            refine ⟨k + 1, by omega, by go_num, ?_⟩
            show n ∉ _
            rw [hts.out]
            have := HB.out
            simp at this
            have h3 := hn.out
            simp only [List.mem_append, List.mem_singleton, not_or]
            exact ⟨h3, fun e => this e.symm⟩
          case measure => simp [intOf]; omega
      · obtain rfl : k = l.length := by omega
        go_wp2_with fail
        go_ret
        refine ⟨ret_bool ?_, rfl⟩
        have h3 := hn.out
        rw [List.take_length] at h3
        simp [h3]

theorem Re.nameds_take : ∀ (xs : List Re) (k : Nat) (a : Re) (b n : List Int), xs[k]? = some a → Re.nameds (xs.take k) b = some n → Re.nameds (xs.take (k + 1)) b = a.named n
  | t :: ts, 0, a, b, n, h, h2 => by
    simp at h; subst h
    simp only [List.take_zero, Re.nameds, Option.some.injEq] at h2
    subst h2
    simp only [List.take_succ_cons, List.take_zero, Re.nameds]
    cases t.named b <;> rfl
  | t :: ts, k + 1, a, b, n, h, h2 => by
    simp only [List.take_succ_cons, Re.nameds] at h2 ⊢
    cases hx : t.named b with
    | none => rw [hx] at h2; simp at h2
    | some m => rw [hx] at h2; exact Re.nameds_take ts k a m n (by simpa using h) h2
theorem Re.nameds_none : ∀ (xs : List Re) (k : Nat) (a : Re) (b n : List Int), xs[k]? = some a → Re.nameds (xs.take k) b = some n → a.named n = none → Re.nameds xs b = none
  | t :: ts, 0, a, b, n, h, h2, h3 => by
    simp at h; subst h
    simp only [List.take_zero, Re.nameds, Option.some.injEq] at h2
    subst h2
    simp [Re.nameds, h3]
  | t :: ts, k + 1, a, b, n, h, h2, h3 => by
    simp only [List.take_succ_cons, Re.nameds] at h2 ⊢
    cases hx : t.named b with
    | none => rfl
    | some m => rw [hx] at h2; exact Re.nameds_none ts k a m n (by simpa using h) h2 h3
mutual
theorem Re.named_len : ∀ (t : Re) (b n : List Int), t.named b = some n → n.length ≤ b.length + t.size
  | .mk p xs, b, n, h => by
    rw [Re.named] at h
    rw [Re.size_mk]
    split at h
    · cases h
    · cases hx : Re.nameds xs b with
      | none => rw [hx] at h; simp at h
      | some m =>
        rw [hx] at h
        have := Re.nameds_len xs b m hx
        simp only at h
        split at h <;> cases h <;> simp <;> omega
theorem Re.nameds_len : ∀ (xs : List Re) (b n : List Int), Re.nameds xs b = some n → n.length ≤ b.length + Re.sizes xs
  | [], b, n, h => by simp [Re.nameds] at h; subst h; omega
  | t :: ts, b, n, h => by
    rw [Re.nameds] at h
    cases hx : t.named b with
    | none => rw [hx] at h; simp at h
    | some m =>
      rw [hx] at h
      have h1 := Re.named_len t b m hx
      have h2 := Re.nameds_len ts m n h
      simp only [Re.sizes, Re.counts, Re.size] at *; omega
end

theorem OwnInts.blocks {w : World} {base : Nat} {v : Value} {l : List Int} (h : OwnInts w base v l) : ∀ g, g ∈ own v → base ≤ g ∧ g < w.heap.size := by
  intro g hg
  unfold own at hg
  cases hv : v.ownBlock with
  | none => rw [hv] at hg; simp at hg
  | some k => rw [hv] at hg; simp at hg; subst hg; exact World.ownsRow.lt h g hv
theorem OwnInts.alloc {w : World} {base : Nat} {v : Value} {l : List Int} (h : OwnInts w base v l) (o : Obj) : OwnInts (w.alloc o) base v l := World.ownsRow.alloc h o
theorem OwnInts.shape {w : World} {base : Nat} {v : Value} {l : List Int} (h : OwnInts w base v l) : ∃ a n c, v = .slice a n c := by
  rcases h.2 with ⟨rfl, _⟩ | ⟨g, cap, cur, rfl, _⟩
  · exact ⟨_, _, _, rfl⟩
  · exact ⟨_, _, _, rfl⟩
theorem But.of_grown {w w' : World} {v : Value} (h : w.grownBy w' v.ownBlock) : But (own v) w w' := by
  refine ⟨h.os, h.tape, h.output, h.size, fun k hk hn => h.block k hk (fun e => hn ?_)⟩
  unfold own
  rw [← e]; simp

def NamedPost (base : Nat) (v : Value) (r : Option (List Int)) (w : World) (e : Ending) (w' : World) : Prop :=
  But (own v) w w' ∧ ∃ a n c, e = .returned (.tuple #[.slice a n c, .bool r.isSome]) ∧ ∀ l, r = some l → OwnInts w' base (.slice a n c) l ∧ ∀ g, g ∈ own (.slice a n c) → g ∈ own v ∨ w.heap.size ≤ g

set_option maxRecDepth 100000 in
set_option maxHeartbeats 4000000 in
theorem namedRef_any (base : Nat) (wb : World) (hbase : wb.heap.size ≤ base) (t : Re) : ∀ (w : World) (cs : List Value) (v : Value) (l : List Int), t.In wb cs → Below wb.heap.size wb w → base ≤ w.heap.size → OwnInts w base v l → l.length + t.size ≤ 1048577 →
    Calls Try.prog 27 #[.agg cs.toArray, v] w (NamedPost base v (t.named l) w) := by
  induction t using Re.ind with
  | h p xs ih =>
    intro w cs v l hIn hbw hbs hown hsz
    rw [Re.In] at hIn
    obtain ⟨ad, cap, rfl, hwf, hlc, hcm, hnil, hall⟩ := hIn
    rw [Re.size_mk] at hsz
    have hlen := Re.sizes_len xs
    obtain ⟨va, vn, vc, rfl⟩ := hown.shape
    have HIH := hid ih
    have HAL := hid hall
    have HBW := hid hbw
    have HOW := hid hown
    clear ih hall hwf hbw hown
    simp only [Pay.cells]
    by_cases o9 : p.op = 9
    · have d9 : (p.op == 9) = true := by simpa using o9
      have d6 : (p.op == 6) = false := by simp [o9]
      have HHAS := hid (fun x h => hasRef_any base (.slice va vn vc) l p.gr x h (by omega))
      have HOA := hid (HOW.out.alloc (.cells #[.int .i64 p.op, .int .u64 p.set.a, .int .u64 p.set.b, .int .u64 p.set.c, .int .u64 p.set.d, .int .i64 p.lo, .int .i64 p.hi, .int .i64 p.gr, .slice ad xs.length cap] 28))
      by_cases hm : p.gr ∈ l
      · have HNMK : Hid (Re.named (.mk p xs) l = Re.nameds xs l) := by show _ = _; rw [Re.named, if_neg (fun h => h.2 hm)]; simp only [if_neg (show ¬ p.op = 6 by omega)]; cases Re.nameds xs l <;> rfl
        have HM0 := hid hm
        clear o9 hm
        go_enter Try.func27, Try.ntmps27
        go_wp2_with fail
        refine (HHAS.out _ HOA.out).mono ?_
        rw [decide_eq_true HM0.out]
        rintro e w1 ⟨rfl, rfl⟩
        go_wp2_with fail
        go_loopw [1, 6, 7, 8] (fun vv i _ _ wr => ∃ (k : Nat) (a : Option Addr) (n c : Nat) (lc : List Int), k ≤ xs.length ∧ i = .int .i64 k ∧ vv = .slice a n c ∧ Hid (Re.nameds (xs.take k) l = some lc) ∧ Hid (OwnInts wr base (.slice a n c) lc ∧ (∀ g, g ∈ own (.slice a n c) → g ∈ own (.slice va vn vc) ∨ w.heap.size < g) ∧ But (own (.slice va vn vc)) w wr ∧ Row wr w.heap.size [.int .i64 p.op, .int .u64 p.set.a, .int .u64 p.set.b, .int .u64 p.set.c, .int .u64 p.set.d, .int .i64 p.lo, .int .i64 p.hi, .int .i64 p.gr, .slice ad xs.length cap] 28)) (fun _ i _ _ _ => xs.length - (intOf i).toNat)
        case atStart => exact ⟨0, va, vn, vc, l, by omega, rfl, rfl, rfl, HOW.out.alloc _, fun g hg => .inl hg, (But.refl _ w).alloc _, Row.new (cs := [.int .i64 p.op, .int .u64 p.set.a, .int .u64 p.set.b, .int .u64 p.set.c, .int .u64 p.set.d, .int .i64 p.lo, .int .i64 p.hi, .int .i64 p.gr, .slice ad xs.length cap]) rfl⟩
        case round =>
          obtain ⟨k, a, n, c, lc, hk, rfl, rfl, hn, HX⟩ := hrel
          have q := HX.out.2.2.2.c9
          have hB := HX.out.2.2.2.lt
          have hgv := HOW.out.blocks
          have hwr := HX.out.2.2.1.size
          have HBL := hid (HBW.out.trans (HX.out.2.2.1.below (Nat.le_trans hbase hbs) (fun j hj => Nat.le_trans hbase (hgv j hj).1)))
          have HGV := hid hgv
          clear hgv
          have hln := Re.nameds_len _ _ _ hn.out
          have hct := Re.counts_take_le (fun _ => true) xs k
          by_cases hlt : k < xs.length
          · obtain ⟨b, o, p', ad', n', cap', rfl, HC, HI0, hbb⟩ := HAL.out.kid HBL.out k hlt
            have hst := Re.counts_take (fun _ => true) xs k xs[k] (by simp [hlt])
            have hst1 := Re.counts_take_le (fun _ => true) xs (k + 1)
            simp only [Re.sizes, Re.size] at *
            have HCA := hid (HIH.out xs[k] (by simp) wr _ (.slice a n c) lc HI0.out HBL.out (by omega) HX.out.1 (by omega))
            have HT := hid (Re.nameds_take xs k xs[k] l lc (by simp [hlt]) hn.out)
            have HN := hid (Re.nameds_none xs k xs[k] l lc (by simp [hlt]) hn.out)
            generalize hres : xs[k].named lc = res at HCA
            have HRES := hid hres
            clear hst hst1 hln hct hres
            go_wp2_with (first | (with_reducible (refine wpList_load_agg rfl 28 _ rfl b (o + (k * 9)) rfl _ _ HC.out Try.underlying28 rfl (size_re9 _ _ _ _ _ _ _ _ _) ?_)))
            refine HCA.out.mono ?_
            rintro e w2 ⟨hb2, a2, n2, c2, rfl, hm⟩
            have HB2 := hid hb2
            have HM := hid hm
            have HB3 : Hid (But (own (.slice va vn vc)) w w2) := HX.out.2.2.1.later hb2 (fun i hi => by rcases HX.out.2.1 i hi with h | h; exact .inl h; exact .inr (by omega))
            clear hb2 HCA hm
            cases res with
            | none =>
              go_wp2_with fail
              go_ret2
              refine ⟨HB3.out, a, n, c, ?_, fun n' hn' => ?_⟩
              · rw [HNMK.out, HN.out HRES.out]; rfl
              · rw [HNMK.out, HN.out HRES.out] at hn'; cases hn'
            | some l2 =>
              go_wp2_with fail
              go_roundw
              case rel =>
                refine ⟨k + 1, a2, n2, c2, l2, by omega, by go_num, rfl, ?_, (HM.out l2 rfl).1, fun g hg => ?_, HB3.out, HX.out.2.2.2.but HB2.out (fun hm => ?_)⟩
                · show _ = _
                  rw [HT.out, HRES.out]
                · rcases (HM.out l2 rfl).2 g hg with h | h
                  · exact HX.out.2.1 g h
                  · exact .inr (by omega)
                · rcases HX.out.2.1 _ hm with h | h
                  · have := (HGV.out _ h).2; omega
                  · omega
              case measure => simp [intOf]; omega
          · obtain rfl : k = xs.length := by omega
            have hn2 := hn.out
            rw [List.take_length] at hn2
            have HN2 := hid hn2
            clear hn2
            go_wp2_with fail
            go_ret2
            refine ⟨HX.out.2.2.1, a, n, c, ?_, fun n' hn' => ?_⟩
            · rw [HNMK.out, HN2.out]; rfl
            · rw [HNMK.out, HN2.out] at hn'
              cases hn'
              exact ⟨HX.out.1, fun g hg => by rcases HX.out.2.1 g hg with h | h; exact .inl h; exact .inr (by omega)⟩
      · have HNMK : Hid (Re.named (.mk p xs) l = none) := by show _ = _; rw [Re.named, if_pos ⟨o9, hm⟩]
        have HM0 := hid hm
        clear o9 hm
        go_enter Try.func27, Try.ntmps27
        go_wp2_with fail
        refine (HHAS.out _ HOA.out).mono ?_
        rw [decide_eq_false HM0.out]
        rintro e w1 ⟨rfl, rfl⟩
        go_wp2_with fail
        go_ret2
        refine ⟨(But.refl _ w).alloc _, va, vn, vc, by rw [HNMK.out]; rfl, fun n' hn' => by rw [HNMK.out] at hn'; cases hn'⟩
    · by_cases o6 : p.op = 6
      · have d9 : (p.op == 9) = false := by simpa using o9
        have d6 : (p.op == 6) = true := by simpa using o6
        have HNMK : Hid (Re.named (.mk p xs) l = (Re.nameds xs l).map (· ++ [p.gr])) := by show _ = _; rw [Re.named, if_neg (fun h => o9 h.1)]; simp only [if_pos o6]; cases Re.nameds xs l <;> rfl
        clear o9 o6
        go_enter Try.func27, Try.ntmps27
        go_wp2_with fail
        go_loopw [1, 6, 7, 8] (fun vv i _ _ wr => ∃ (k : Nat) (a : Option Addr) (n c : Nat) (lc : List Int), k ≤ xs.length ∧ i = .int .i64 k ∧ vv = .slice a n c ∧ Hid (Re.nameds (xs.take k) l = some lc) ∧ Hid (OwnInts wr base (.slice a n c) lc ∧ (∀ g, g ∈ own (.slice a n c) → g ∈ own (.slice va vn vc) ∨ w.heap.size < g) ∧ But (own (.slice va vn vc)) w wr ∧ Row wr w.heap.size [.int .i64 p.op, .int .u64 p.set.a, .int .u64 p.set.b, .int .u64 p.set.c, .int .u64 p.set.d, .int .i64 p.lo, .int .i64 p.hi, .int .i64 p.gr, .slice ad xs.length cap] 28)) (fun _ i _ _ _ => xs.length - (intOf i).toNat)
        case atStart => exact ⟨0, va, vn, vc, l, by omega, rfl, rfl, rfl, HOW.out.alloc _, fun g hg => .inl hg, (But.refl _ w).alloc _, Row.new (cs := [.int .i64 p.op, .int .u64 p.set.a, .int .u64 p.set.b, .int .u64 p.set.c, .int .u64 p.set.d, .int .i64 p.lo, .int .i64 p.hi, .int .i64 p.gr, .slice ad xs.length cap]) rfl⟩
        case round =>
          obtain ⟨k, a, n, c, lc, hk, rfl, rfl, hn, HX⟩ := hrel
          have q := HX.out.2.2.2.c9
          have hB := HX.out.2.2.2.lt
          have hgv := HOW.out.blocks
          have hwr := HX.out.2.2.1.size
          have HBL := hid (HBW.out.trans (HX.out.2.2.1.below (Nat.le_trans hbase hbs) (fun j hj => Nat.le_trans hbase (hgv j hj).1)))
          have HGV := hid hgv
          clear hgv
          have hln := Re.nameds_len _ _ _ hn.out
          have hct := Re.counts_take_le (fun _ => true) xs k
          by_cases hlt : k < xs.length
          · obtain ⟨b, o, p', ad', n', cap', rfl, HC, HI0, hbb⟩ := HAL.out.kid HBL.out k hlt
            have hst := Re.counts_take (fun _ => true) xs k xs[k] (by simp [hlt])
            have hst1 := Re.counts_take_le (fun _ => true) xs (k + 1)
            simp only [Re.sizes, Re.size] at *
            have HCA := hid (HIH.out xs[k] (by simp) wr _ (.slice a n c) lc HI0.out HBL.out (by omega) HX.out.1 (by omega))
            have HT := hid (Re.nameds_take xs k xs[k] l lc (by simp [hlt]) hn.out)
            have HN := hid (Re.nameds_none xs k xs[k] l lc (by simp [hlt]) hn.out)
            generalize hres : xs[k].named lc = res at HCA
            have HRES := hid hres
            clear hst hst1 hln hct hres
            go_wp2_with (first | (with_reducible (refine wpList_load_agg rfl 28 _ rfl b (o + (k * 9)) rfl _ _ HC.out Try.underlying28 rfl (size_re9 _ _ _ _ _ _ _ _ _) ?_)))
            refine HCA.out.mono ?_
            rintro e w2 ⟨hb2, a2, n2, c2, rfl, hm⟩
            have HB2 := hid hb2
            have HM := hid hm
            have HB3 : Hid (But (own (.slice va vn vc)) w w2) := HX.out.2.2.1.later hb2 (fun i hi => by rcases HX.out.2.1 i hi with h | h; exact .inl h; exact .inr (by omega))
            clear hb2 HCA hm
            cases res with
            | none =>
              go_wp2_with fail
              go_ret2
              refine ⟨HB3.out, a, n, c, ?_, fun n' hn' => ?_⟩
              · rw [HNMK.out, HN.out HRES.out]; rfl
              · rw [HNMK.out, HN.out HRES.out] at hn'; cases hn'
            | some l2 =>
              go_wp2_with fail
              go_roundw
              case rel =>
                refine ⟨k + 1, a2, n2, c2, l2, by omega, by go_num, rfl, ?_, (HM.out l2 rfl).1, fun g hg => ?_, HB3.out, HX.out.2.2.2.but HB2.out (fun hm => ?_)⟩
                · show _ = _
                  rw [HT.out, HRES.out]
                · rcases (HM.out l2 rfl).2 g hg with h | h
                  · exact HX.out.2.1 g h
                  · exact .inr (by omega)
                · rcases HX.out.2.1 _ hm with h | h
                  · have := (HGV.out _ h).2; omega
                  · omega
              case measure => simp [intOf]; omega
          · obtain rfl : k = xs.length := by omega
            have hn2 := hn.out
            rw [List.take_length] at hn2
            have HN2 := hid hn2
            clear hn2
            obtain ⟨i0, hi, hz0, hz1, hz2⟩ := info_parts info_int
            have hln2 := Re.nameds_len _ _ _ HN2.out
            have HA1 : Hid (wr.ownsRow base 3 1 (.slice a n c) lc.length (lc.map (Value.int .i64))) := HX.out.1
            have hlcl : lc.length ≤ 1048577 := by omega
            go_wp2_with (at_builtin; refine wpList_append_row rfl _ _ 69 rfl base 3 i0 (.int .i64 0) 1 8 Try.underlying69 hi hz0 hz1 hz2 rfl (by decide) _ _ _ rfl (HA1.out.alloc _) ⟨wr.heap.size, 0, none⟩ 1 1 [.int .i64 p.gr] rfl rfl ?c1 ?c2 ?c3 ?c4 ?c5 (by decide) ?_)
            case c1 => exact cell_one_new _ _ _
            case c2 => intro u hu; simp at hu; subst hu; rfl
            case c3 => unfold maxLen; omega
            case c4 => omega
            case c5 => simp; omega
            · intro a2 c2 w2 hown' hgrow hnw
              have hown2 : OwnInts w2 base (.slice a2 (lc.length + 1) c2) (lc ++ [p.gr]) := by
                unfold OwnInts
                simpa using hown'
              have HO2 := hid hown2
              have hnew : Hid (∀ g, g ∈ own (.slice a2 (lc.length + 1) c2) → g ∈ own (.slice a n c) ∨ wr.heap.size < g) := by
                intro g hg
                unfold own at hg ⊢
                cases hx : (Value.slice a2 (lc.length + 1) c2).ownBlock with
                | none => rw [hx] at hg; simp at hg
                | some k =>
                  rw [hx] at hg
                  simp at hg
                  subst hg
                  rcases hnw g hx with h | h
                  · exact .inl (by rw [h]; exact List.mem_singleton.2 rfl)
                  · have h5 : wr.heap.size + 1 ≤ g := by simpa using h
                    exact .inr (by omega)
              have hbut : Hid (But (own (.slice a n c)) (wr.alloc (.cells #[.int .i64 p.gr] 3)) w2) := But.of_grown hgrow
              clear hown' hgrow hown2 hnw
              go_wp2_with fail
              go_ret2
              refine ⟨HX.out.2.2.1.later (((But.refl _ wr).alloc _).trans hbut.out) (fun i hi => by rcases HX.out.2.1 i hi with h | h; exact .inl h; exact .inr (by omega)), a2, lc.length + 1, c2, ?_, fun n' hn' => ?_⟩
              · rw [HNMK.out, HN2.out]; rfl
              · rw [HNMK.out, HN2.out] at hn'
                cases hn'
                exact ⟨HO2.out, fun g hg => by
                  rcases hnew.out g hg with h | h
                  · rcases HX.out.2.1 g h with h | h
                    · exact .inl h
                    · exact .inr (by omega)
                  · exact .inr (by omega)⟩
      · have d9 : (p.op == 9) = false := by simpa using o9
        have d6 : (p.op == 6) = false := by simpa using o6
        have HNMK : Hid (Re.named (.mk p xs) l = Re.nameds xs l) := by show _ = _; rw [Re.named, if_neg (fun h => o9 h.1)]; simp only [if_neg o6]; cases Re.nameds xs l <;> rfl
        clear o9 o6
        go_enter Try.func27, Try.ntmps27
        go_wp2_with fail
        go_loopw [1, 6, 7, 8] (fun vv i _ _ wr => ∃ (k : Nat) (a : Option Addr) (n c : Nat) (lc : List Int), k ≤ xs.length ∧ i = .int .i64 k ∧ vv = .slice a n c ∧ Hid (Re.nameds (xs.take k) l = some lc) ∧ Hid (OwnInts wr base (.slice a n c) lc ∧ (∀ g, g ∈ own (.slice a n c) → g ∈ own (.slice va vn vc) ∨ w.heap.size < g) ∧ But (own (.slice va vn vc)) w wr ∧ Row wr w.heap.size [.int .i64 p.op, .int .u64 p.set.a, .int .u64 p.set.b, .int .u64 p.set.c, .int .u64 p.set.d, .int .i64 p.lo, .int .i64 p.hi, .int .i64 p.gr, .slice ad xs.length cap] 28)) (fun _ i _ _ _ => xs.length - (intOf i).toNat)
        case atStart => exact ⟨0, va, vn, vc, l, by omega, rfl, rfl, rfl, HOW.out.alloc _, fun g hg => .inl hg, (But.refl _ w).alloc _, Row.new (cs := [.int .i64 p.op, .int .u64 p.set.a, .int .u64 p.set.b, .int .u64 p.set.c, .int .u64 p.set.d, .int .i64 p.lo, .int .i64 p.hi, .int .i64 p.gr, .slice ad xs.length cap]) rfl⟩
        case round =>
          obtain ⟨k, a, n, c, lc, hk, rfl, rfl, hn, HX⟩ := hrel
          have q := HX.out.2.2.2.c9
          have hB := HX.out.2.2.2.lt
          have hgv := HOW.out.blocks
          have hwr := HX.out.2.2.1.size
          have HBL := hid (HBW.out.trans (HX.out.2.2.1.below (Nat.le_trans hbase hbs) (fun j hj => Nat.le_trans hbase (hgv j hj).1)))
          have HGV := hid hgv
          clear hgv
          have hln := Re.nameds_len _ _ _ hn.out
          have hct := Re.counts_take_le (fun _ => true) xs k
          by_cases hlt : k < xs.length
          · obtain ⟨b, o, p', ad', n', cap', rfl, HC, HI0, hbb⟩ := HAL.out.kid HBL.out k hlt
            have hst := Re.counts_take (fun _ => true) xs k xs[k] (by simp [hlt])
            have hst1 := Re.counts_take_le (fun _ => true) xs (k + 1)
            simp only [Re.sizes, Re.size] at *
            have HCA := hid (HIH.out xs[k] (by simp) wr _ (.slice a n c) lc HI0.out HBL.out (by omega) HX.out.1 (by omega))
            have HT := hid (Re.nameds_take xs k xs[k] l lc (by simp [hlt]) hn.out)
            have HN := hid (Re.nameds_none xs k xs[k] l lc (by simp [hlt]) hn.out)
            generalize hres : xs[k].named lc = res at HCA
            have HRES := hid hres
            clear hst hst1 hln hct hres
            go_wp2_with (first | (with_reducible (refine wpList_load_agg rfl 28 _ rfl b (o + (k * 9)) rfl _ _ HC.out Try.underlying28 rfl (size_re9 _ _ _ _ _ _ _ _ _) ?_)))
            refine HCA.out.mono ?_
            rintro e w2 ⟨hb2, a2, n2, c2, rfl, hm⟩
            have HB2 := hid hb2
            have HM := hid hm
            have HB3 : Hid (But (own (.slice va vn vc)) w w2) := HX.out.2.2.1.later hb2 (fun i hi => by rcases HX.out.2.1 i hi with h | h; exact .inl h; exact .inr (by omega))
            clear hb2 HCA hm
            cases res with
            | none =>
              go_wp2_with fail
              go_ret2
              refine ⟨HB3.out, a, n, c, ?_, fun n' hn' => ?_⟩
              · rw [HNMK.out, HN.out HRES.out]; rfl
              · rw [HNMK.out, HN.out HRES.out] at hn'; cases hn'
            | some l2 =>
              go_wp2_with fail
              go_roundw
              case rel =>
                refine ⟨k + 1, a2, n2, c2, l2, by omega, by go_num, rfl, ?_, (HM.out l2 rfl).1, fun g hg => ?_, HB3.out, HX.out.2.2.2.but HB2.out (fun hm => ?_)⟩
                · show _ = _
                  rw [HT.out, HRES.out]
                · rcases (HM.out l2 rfl).2 g hg with h | h
                  · exact HX.out.2.1 g h
                  · exact .inr (by omega)
                · rcases HX.out.2.1 _ hm with h | h
                  · have := (HGV.out _ h).2; omega
                  · omega
              case measure => simp [intOf]; omega
          · obtain rfl : k = xs.length := by omega
            have hn2 := hn.out
            rw [List.take_length] at hn2
            have HN2 := hid hn2
            clear hn2
            go_wp2_with fail
            go_ret2
            refine ⟨HX.out.2.2.1, a, n, c, ?_, fun n' hn' => ?_⟩
            · rw [HNMK.out, HN2.out]; rfl
            · rw [HNMK.out, HN2.out] at hn'
              cases hn'
              exact ⟨HX.out.1, fun g hg => by rcases HX.out.2.1 g hg with h | h; exact .inl h; exact .inr (by omega)⟩
end Go.Proofs.Ythnpbopnpdlmnaa

/- The program's learn: the walk. -/
namespace Go.Proofs.Ythnpbopnpdlmnaa
open Go.RowKit
attribute [local go_sem] gives givesUpon



theorem Re.typed_kid {p : Pay} {xs : List Re} (h : (Re.mk p xs).typed = true) (k : Nat) (hk : k < xs.length) : xs[k].typed = true := by
  rw [Re.typed] at h
  cases h2 : xs[k].typed with
  | true => rfl
  | false => have := Re.typeds_get xs k xs[k] (by simp [hk]) h2; simp [this] at h

theorem grown_block {w w' : World} {v : Value} {base : Nat} (h : w.grownBy w' v.ownBlock) (hv : ∀ g, v.ownBlock = some g → base ≤ g) (k : Nat) (h1 : k < base) (h2 : k < w.heap.size) : w'.heap[k]? = w.heap[k]? :=
  h.block k h2 (fun e => by have := hv k e.symm; omega)

end Go.Proofs.Ythnpbopnpdlmnaa

/- The check of a tree, the program's and the reference's: both return the same error. -/
namespace Go.Proofs.Ythnpbopnpdlmnaa
open Go.RowKit

end Go.Proofs.Ythnpbopnpdlmnaa

/- What the program knows of a tree: known, Nullable, Length, First. -/
namespace Go.Proofs.Ythnpbopnpdlmnaa
open Go.RowKit
attribute [local go_sem] gives givesUpon


theorem Pay.reps_of {p : Pay} (h : ¬ (p.op = 5 ∧ p.badRep = true)) (h5 : p.op = 5) : (-1 ≤ p.lo ∧ p.lo ≤ 64) ∧ -1 ≤ p.hi ∧ p.hi ≤ 64 := by
  have hb : p.badRep = false := by
    cases hx : p.badRep with
    | true => exact absurd ⟨h5, hx⟩ h
    | false => rfl
  unfold Pay.badRep at hb
  simp at hb
  omega
mutual
theorem Re.ranged_reps : ∀ (t : Re) (b : Nat), (t.ranged b).isSome = true → t.lreps = true
  | .mk p xs, b, h => by
    rw [Re.ranged] at h
    rw [Re.lreps]
    split at h
    · cases h
    · rename_i h5
      have e1 := decide_eq_true (p := p.op = 5 → (-1 ≤ p.lo ∧ p.lo ≤ 64) ∧ -1 ≤ p.hi ∧ p.hi ≤ 64) (fun e => Pay.reps_of h5 e)
      rw [e1]
      split at h
      · split at h
        · rw [Re.rangeds_reps xs _ h]; rfl
        · cases h
      · rw [Re.rangeds_reps xs _ h]; rfl
theorem Re.rangeds_reps : ∀ (xs : List Re) (b : Nat), (Re.rangeds xs b).isSome = true → Re.lrepss xs = true
  | [], b, h => by rw [Re.lrepss]
  | t :: ts, b, h => by
    rw [Re.rangeds] at h
    rw [Re.lrepss]
    cases hx : t.ranged b with
    | none => rw [hx] at h; cases h
    | some n =>
      rw [hx] at h
      rw [Re.ranged_reps t b (by rw [hx]; rfl), Re.rangeds_reps ts n h]
      rfl
end
theorem Re.err_zero {t : Re} (h : t.err = 0) : t.typed = true ∧ t.lreps = true ∧ (t.ranged 0).isSome = true ∧ (t.named []).isSome = true ∧ t.size ≤ 600 ∧ t.groups ≤ 9 ∧ t.levels ≤ 32 := by
  unfold Re.err at h
  cases h1 : t.typed with
  | false => simp [h1] at h
  | true =>
    cases h2 : t.ranged 0 with
    | none => simp [h1, h2] at h
    | some n =>
      cases h3 : t.named [] with
      | none => simp [h1, h2, h3] at h
      | some l =>
        simp only [h1, h2, h3] at h
        refine ⟨rfl, Re.ranged_reps t 0 (by rw [h2]; rfl), rfl, rfl, ?_⟩
        by_cases hx : 600 < t.size ∨ 9 < t.groups ∨ 32 < t.levels
        · simp [hx] at h
        · omega

theorem ret_row2 {P : Program} {fn : Func} {R : Ending → World → Prop} {a : Act} {w : World} (p : Tmp) (ty : TypeId) (q : Tmp) (h : fn.results = #[.cell p ty, .tmp q]) (b : Nat) (hp : a.tmps.getD p undef = .pointer (some ⟨b, 0, none⟩)) (cs : List Value) (hc : CellsAt w b 0 cs) (d : TypeDesc)
    (hu : P.underlying ty = some d) (hd : (match d with | .struct _ | .array _ _ => true | _ => false) = true) (hi : (P.info? ty).map (·.size) = some cs.length) (hdf : a.defers = []) (hR : R (.returned (.tuple #[.agg cs.toArray, a.tmps.getD q undef])) w) : bodyPost P fn R .ret a w := by
  refine bodyPost_ret (v := .tuple #[.agg cs.toArray, a.tmps.getD q undef]) ?_ hdf hR
  have hl : (loadCells ⟨b, 0, none⟩ cs.length).run P w = .ok cs.toArray w := run_loadCells_list (P := P) w ⟨b, 0, none⟩ cs (fun j v hv => by rw [Addr.add_lit]; exact hc j v hv)
  have hrun : (loadVar ty ⟨b, 0, none⟩).run P w = .ok (.agg cs.toArray) w := by
    cases hq : P.info? ty with
    | none => simp [hq] at hi
    | some i =>
      have hs : i.size = cs.length := by simpa [hq] using hi
      have hagg : (isAgg ty).run P w = .ok true w := by
        unfold isAgg
        rw [Sem.run_bind, run_underlying hu w]
        cases d <;> simp_all
      simp [loadVar, Sem.run_bind, hagg, sizeOf, typeInfo, hq, hs, hl]
  have hp' : a.tmps[p]?.getD undef = .pointer (some ⟨b, 0, none⟩) := by simpa using hp
  simp [results, h, hp', asAddr, hrun]



end Go.Proofs.Ythnpbopnpdlmnaa

/- What stands for counted repetitions: the plain law. No program. -/
namespace Go.Proofs.Ythnpbopnpdlmnaa
open Go.RowKit

def Pay.of (op : Int) : Pay := ⟨op, Cs.none, 0, 0, 0⟩
def Pay.ofRep (lo hi : Int) : Pay := ⟨5, Cs.none, lo, hi, 0⟩
theorem Pay.of_wf {op : Int} (h : I64 op) : (Pay.of op).wf := ⟨h, Cs.none_wf, ⟨show (-9223372036854775808 : Int) ≤ 0 by decide, show (0 : Int) ≤ 9223372036854775807 by decide⟩, ⟨show (-9223372036854775808 : Int) ≤ 0 by decide, show (0 : Int) ≤ 9223372036854775807 by decide⟩, ⟨show (-9223372036854775808 : Int) ≤ 0 by decide, show (0 : Int) ≤ 9223372036854775807 by decide⟩⟩
theorem Pay.ofRep_wf {lo hi : Int} (h : I64 lo) (h' : I64 hi) : (Pay.ofRep lo hi).wf := ⟨⟨show (-9223372036854775808 : Int) ≤ 5 by decide, show (5 : Int) ≤ 9223372036854775807 by decide⟩, Cs.none_wf, h, h', ⟨show (-9223372036854775808 : Int) ≤ 0 by decide, show (0 : Int) ≤ 9223372036854775807 by decide⟩⟩
def Re.rept (x : Re) (lo hi : Int) : Re := .mk (Pay.ofRep lo hi) [x]
def Re.counted (x : Re) (lo hi : Int) : Re :=
  if (lo = 0 ∧ (hi = 1 ∨ hi = -1)) ∨ (lo = 1 ∧ hi = -1) then x.rept lo hi
  else if hi = 0 then .mk (Pay.of 1) []
  else if lo = 1 ∧ hi = 1 then x
  else if hi = lo then .mk (Pay.of 3) (List.replicate lo.toNat x)
  else if hi = -1 then .mk (Pay.of 3) (List.replicate (lo - 1).toNat x ++ [x.rept 1 (-1)])
  else .mk (Pay.of 3) (List.replicate lo.toNat x ++ List.replicate (hi - lo).toNat (x.rept 0 1))

mutual
def Re.weigh : Re → Int
  | .mk p xs => if p.op = 5 then min 1073741824 (weightL (Re.weighs xs 0) p.lo p.hi) else min 1073741824 (Re.weighs xs 0 + 1)
def Re.weighs : List Re → Int → Int
  | [], n => n
  | t :: ts, n => Re.weighs ts (min 1073741824 (n + t.weigh))
end
mutual
def Re.expand : Re → Re
  | .mk p xs => if p.op = 5 ∧ p.hi = 0 then .mk (Pay.of 1) [] else if p.op = 5 then ((Re.expands xs).headD (.mk (Pay.of 0) [])).counted p.lo p.hi else .mk p (Re.expands xs)
def Re.expands : List Re → List Re
  | [] => []
  | t :: ts => t.expand :: Re.expands ts
end
mutual
def Re.okr : Re → Bool
  | .mk p xs => decide (p.op = 5 → p.badRep = false) && Re.okrs xs
def Re.okrs : List Re → Bool
  | [] => true
  | t :: ts => t.okr && Re.okrs ts
end
theorem Re.okrs_get : ∀ (xs : List Re), Re.okrs xs = true → ∀ k (hk : k < xs.length), xs[k].okr = true
  | t :: ts, h, 0, hk => by rw [Re.okrs, Bool.and_eq_true] at h; exact h.1
  | t :: ts, h, k + 1, hk => by
    rw [Re.okrs, Bool.and_eq_true] at h
    exact Re.okrs_get ts h.2 k (by simpa using hk)
theorem Pay.badRep_false {p : Pay} (h : p.badRep = false) : (0 ≤ p.lo ∧ p.lo ≤ 64) ∧ (p.hi = -1 ∨ (p.lo ≤ p.hi ∧ p.hi ≤ 64)) := by
  unfold Pay.badRep at h
  simp at h
  omega
mutual
theorem Re.ranged_okr : ∀ (t : Re) (b : Nat), (t.ranged b).isSome = true → t.okr = true
  | .mk p xs, b, h => by
    rw [Re.ranged] at h
    rw [Re.okr]
    split at h
    · cases h
    · rename_i h5
      have e1 := decide_eq_true (p := p.op = 5 → p.badRep = false) (fun e => by
        cases hx : p.badRep with
        | true => exact absurd ⟨e, hx⟩ h5
        | false => rfl)
      rw [e1]
      split at h
      · split at h
        · rw [Re.rangeds_okr xs _ h]; rfl
        · cases h
      · rw [Re.rangeds_okr xs _ h]; rfl
theorem Re.rangeds_okr : ∀ (xs : List Re) (b : Nat), (Re.rangeds xs b).isSome = true → Re.okrs xs = true
  | [], b, h => by rw [Re.okrs]
  | t :: ts, b, h => by
    rw [Re.rangeds] at h
    rw [Re.okrs]
    cases hx : t.ranged b with
    | none => rw [hx] at h; cases h
    | some n =>
      rw [hx] at h
      rw [Re.ranged_okr t b (by rw [hx]; rfl), Re.rangeds_okr ts n h]
      rfl
end
theorem weightL_nonneg {n lo hi : Int} (hn : 0 ≤ n) (hlo : 0 ≤ lo) (hhi : hi = -1 ∨ lo ≤ hi) : 0 ≤ weightL n lo hi := by
  have h1 := Int.mul_nonneg hlo hn
  unfold weightL
  split
  · omega
  · split
    · omega
    · split
      · omega
      · split
        · omega
        · split
          · omega
          · have h2 : 0 ≤ (hi - lo) * (n + 1) := Int.mul_nonneg (by omega) (by omega)
            omega
mutual
theorem Re.weigh_bd : ∀ (t : Re), t.okr = true → 0 ≤ t.weigh ∧ t.weigh ≤ 1073741824
  | .mk p xs, h => by
    rw [Re.okr, Bool.and_eq_true, decide_eq_true_eq] at h
    have h1 := Re.weighs_bd xs 0 h.2 (by omega)
    rw [Re.weigh]
    split
    · rename_i h5
      have h2 := Pay.badRep_false (h.1 h5)
      have h3 := weightL_nonneg (n := Re.weighs xs 0) (lo := p.lo) (hi := p.hi) h1.1 h2.1.1 (by omega)
      omega
    · omega
theorem Re.weighs_bd : ∀ (xs : List Re) (n : Int), Re.okrs xs = true → 0 ≤ n ∧ n ≤ 1073741824 → 0 ≤ Re.weighs xs n ∧ Re.weighs xs n ≤ 1073741824
  | [], n, _, h => by rw [Re.weighs]; exact h
  | t :: ts, n, hk, h => by
    rw [Re.okrs, Bool.and_eq_true] at hk
    have := Re.weigh_bd t hk.1
    rw [Re.weighs]
    exact Re.weighs_bd ts _ hk.2 (by omega)
end
theorem Re.expands_map : ∀ (xs : List Re), Re.expands xs = xs.map Re.expand
  | [] => by rw [Re.expands]; rfl
  | t :: ts => by rw [Re.expands, Re.expands_map ts]; rfl
end Go.Proofs.Ythnpbopnpdlmnaa
