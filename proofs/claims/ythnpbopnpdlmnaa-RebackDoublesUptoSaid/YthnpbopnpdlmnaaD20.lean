/- The reference's question on names. -/
import Derived.Test.YthnpbopnpdlmnaaD19
import Derived.Test.YthnpbopnpdlmnaaD03
import Derived.Test.YthnpbopnpdlmnaaD04
import Derived.Test.YthnpbopnpdlmnaaD06
import Derived.Test.YthnpbopnpdlmnaaD09
namespace Go.Proofs.Ythnpbopnpdlmnaa
open Go.RowKit

theorem info_int : (Try.prog.info? 3).map (fun i => (i.zero, i.size, i.bytes)) = some (some (.int .i64 0), 1, 8) := by kernel_rfl

def OwnInts (w : World) (base : Nat) (v : Value) (l : List Int) : Prop := w.ownsRow base 3 1 v l.length (l.map (Value.int .i64))
def own (v : Value) : List Nat := match v.ownBlock with | some g => [g] | none => []

set_option maxHeartbeats 1000000 in
theorem hasRef_any (base : Nat) (v : Value) (l : List Int) (n : Int) (w : World) (h : OwnInts w base v l) (hl : l.length ≤ 1048577) :
    Calls Try.prog 47 #[v, .int .i64 n] w fun e w' => e = .returned (.bool (decide (n ∈ l))) ∧ w = w' := by
  obtain ⟨hlen, ho⟩ := h
  rcases ho with ⟨rfl, h0⟩ | ⟨g, cap, cur, rfl, hg, hcur, hnc, hcm, hsz, hx⟩
  · obtain rfl : l = [] := List.eq_nil_of_length_eq_zero h0
    go_enter Try.func47, Try.ntmps47
    go_wp2_with fail
    refine wp_loop_rounds 1 ?_
    rw [rounds_succ]
    go_wp2_with fail
    go_ret
    exact ⟨rfl, rfl⟩
  · have hcell : Hid (∀ i, i < l.length → w.cell? ⟨g, i, none⟩ = some (.int .i64 (l.getD i 0))) := fun i hi => by
      have hw : w.ownsRow base 3 1 (.slice (some ⟨g, 0, none⟩) l.length cap) l.length (l.map (Value.int .i64)) := ⟨hlen, .inr ⟨g, cap, cur, rfl, hg, hcur, hnc, hcm, hsz, hx⟩⟩
      rw [hw.cellAt i (by omega)]
      simp [List.getD, hi]
    clear hcur hx hlen hsz
    go_enter Try.func47, Try.ntmps47
    go_wp2_with fail
    go_loop [5] (fun i => ∃ k : Nat, k ≤ l.length ∧ i = .int .i64 k ∧ Hid (n ∉ l.take k)) (fun i => l.length - (intOf i).toNat)
    case atStart => exact ⟨0, by omega, rfl, by show n ∉ _; simp⟩
    case round =>
      obtain ⟨k, hk, rfl, hn⟩ := hrel
      by_cases hlt : k < l.length
      · have hc := hcell.out k hlt
        have hts : Hid (l.take (k + 1) = l.take k ++ [l[k]]) := List.take_succ_eq_append_getElem hlt
        have he : l.getD k 0 = l[k] := by simp [List.getD, hlt]
        rw [he] at hc
        clear he
        have hmem : Hid (l[k] ∈ l) := List.getElem_mem hlt
        rcases (show (l[k] == n) = true ∨ (l[k] == n) = false by cases (l[k] == n) <;> simp) with hb | hb
        · have HB := hid hb
          go_wp2_with fail
          go_ret
          refine ⟨ret_bool ?_, rfl⟩
          have := HB.out
          simp at this
          have h2 := hmem.out
          rw [this] at h2
          simp [h2]
        · have HB := hid hb
          go_wp2_with fail
          go_round
          case rel =>
            refine ⟨k + 1, by omega, by go_num, ?_⟩
            show n ∉ _
            rw [hts.out]
            have := HB.out
            simp at this
            have h3 := hn.out
            simp only [List.mem_append, List.mem_singleton, not_or]
            exact ⟨h3, fun e => this e.symm⟩
          case measure => simp [intOf]; omega
      · obtain rfl : k = l.length := by omega
        go_wp2_with fail
        go_ret
        refine ⟨ret_bool ?_, rfl⟩
        have h3 := hn.out
        rw [List.take_length] at h3
        simp [h3]

theorem Re.nameds_take : ∀ (xs : List Re) (k : Nat) (a : Re) (b n : List Int), xs[k]? = some a → Re.nameds (xs.take k) b = some n → Re.nameds (xs.take (k + 1)) b = a.named n
  | t :: ts, 0, a, b, n, h, h2 => by
    simp at h; subst h
    simp only [List.take_zero, Re.nameds, Option.some.injEq] at h2
    subst h2
    simp only [List.take_succ_cons, List.take_zero, Re.nameds]
    cases t.named b <;> rfl
  | t :: ts, k + 1, a, b, n, h, h2 => by
    simp only [List.take_succ_cons, Re.nameds] at h2 ⊢
    cases hx : t.named b with
    | none => rw [hx] at h2; simp at h2
    | some m => rw [hx] at h2; exact Re.nameds_take ts k a m n (by simpa using h) h2
theorem Re.nameds_none : ∀ (xs : List Re) (k : Nat) (a : Re) (b n : List Int), xs[k]? = some a → Re.nameds (xs.take k) b = some n → a.named n = none → Re.nameds xs b = none
  | t :: ts, 0, a, b, n, h, h2, h3 => by
    simp at h; subst h
    simp only [List.take_zero, Re.nameds, Option.some.injEq] at h2
    subst h2
    simp [Re.nameds, h3]
  | t :: ts, k + 1, a, b, n, h, h2, h3 => by
    simp only [List.take_succ_cons, Re.nameds] at h2 ⊢
    cases hx : t.named b with
    | none => rfl
    | some m => rw [hx] at h2; exact Re.nameds_none ts k a m n (by simpa using h) h2 h3
mutual
theorem Re.named_len : ∀ (t : Re) (b n : List Int), t.named b = some n → n.length ≤ b.length + t.size
  | .mk p xs, b, n, h => by
    rw [Re.named] at h
    rw [Re.size_mk]
    split at h
    · cases h
    · cases hx : Re.nameds xs b with
      | none => rw [hx] at h; simp at h
      | some m =>
        rw [hx] at h
        have := Re.nameds_len xs b m hx
        simp only at h
        split at h <;> cases h <;> simp <;> omega
theorem Re.nameds_len : ∀ (xs : List Re) (b n : List Int), Re.nameds xs b = some n → n.length ≤ b.length + Re.sizes xs
  | [], b, n, h => by simp [Re.nameds] at h; subst h; omega
  | t :: ts, b, n, h => by
    rw [Re.nameds] at h
    cases hx : t.named b with
    | none => rw [hx] at h; simp at h
    | some m =>
      rw [hx] at h
      have h1 := Re.named_len t b m hx
      have h2 := Re.nameds_len ts m n h
      simp only [Re.sizes, Re.counts, Re.size] at *; omega
end

theorem OwnInts.blocks {w : World} {base : Nat} {v : Value} {l : List Int} (h : OwnInts w base v l) : ∀ g, g ∈ own v → base ≤ g ∧ g < w.heap.size := by
  intro g hg
  unfold own at hg
  cases hv : v.ownBlock with
  | none => rw [hv] at hg; simp at hg
  | some k => rw [hv] at hg; simp at hg; subst hg; exact World.ownsRow.lt h g hv
theorem OwnInts.alloc {w : World} {base : Nat} {v : Value} {l : List Int} (h : OwnInts w base v l) (o : Obj) : OwnInts (w.alloc o) base v l := World.ownsRow.alloc h o
theorem OwnInts.shape {w : World} {base : Nat} {v : Value} {l : List Int} (h : OwnInts w base v l) : ∃ a n c, v = .slice a n c := by
  rcases h.2 with ⟨rfl, _⟩ | ⟨g, cap, cur, rfl, _⟩
  · exact ⟨_, _, _, rfl⟩
  · exact ⟨_, _, _, rfl⟩
theorem But.of_grown {w w' : World} {v : Value} (h : w.grownBy w' v.ownBlock) : But (own v) w w' := by
  refine ⟨h.os, h.tape, h.output, h.size, fun k hk hn => h.block k hk (fun e => hn ?_)⟩
  unfold own
  rw [← e]; simp

def NamedPost (base : Nat) (v : Value) (r : Option (List Int)) (w : World) (e : Ending) (w' : World) : Prop :=
  But (own v) w w' ∧ ∃ a n c, e = .returned (.tuple #[.slice a n c, .bool r.isSome]) ∧ ∀ l, r = some l → OwnInts w' base (.slice a n c) l ∧ ∀ g, g ∈ own (.slice a n c) → g ∈ own v ∨ w.heap.size ≤ g

set_option maxRecDepth 100000 in
set_option maxHeartbeats 4000000 in
theorem namedRef_any (base : Nat) (wb : World) (hbase : wb.heap.size ≤ base) (t : Re) : ∀ (w : World) (cs : List Value) (v : Value) (l : List Int), t.In wb cs → Below wb.heap.size wb w → base ≤ w.heap.size → OwnInts w base v l → l.length + t.size ≤ 1048577 →
    Calls Try.prog 27 #[.agg cs.toArray, v] w (NamedPost base v (t.named l) w) := by
  induction t using Re.ind with
  | h p xs ih =>
    intro w cs v l hIn hbw hbs hown hsz
    rw [Re.In] at hIn
    obtain ⟨ad, cap, rfl, hwf, hlc, hcm, hnil, hall⟩ := hIn
    rw [Re.size_mk] at hsz
    have hlen := Re.sizes_len xs
    obtain ⟨va, vn, vc, rfl⟩ := hown.shape
    have HIH := hid ih
    have HAL := hid hall
    have HBW := hid hbw
    have HOW := hid hown
    clear ih hall hwf hbw hown
    simp only [Pay.cells]
    by_cases o9 : p.op = 9
    · have d9 : (p.op == 9) = true := by simpa using o9
      have d6 : (p.op == 6) = false := by simp [o9]
      have HHAS := hid (fun x h => hasRef_any base (.slice va vn vc) l p.gr x h (by omega))
      have HOA := hid (HOW.out.alloc (.cells #[.int .i64 p.op, .int .u64 p.set.a, .int .u64 p.set.b, .int .u64 p.set.c, .int .u64 p.set.d, .int .i64 p.lo, .int .i64 p.hi, .int .i64 p.gr, .slice ad xs.length cap] 28))
      by_cases hm : p.gr ∈ l
      · have HNMK : Hid (Re.named (.mk p xs) l = Re.nameds xs l) := by show _ = _; rw [Re.named, if_neg (fun h => h.2 hm)]; simp only [if_neg (show ¬ p.op = 6 by omega)]; cases Re.nameds xs l <;> rfl
        have HM0 := hid hm
        clear o9 hm
        go_enter Try.func27, Try.ntmps27
        go_wp2_with fail
        refine (HHAS.out _ HOA.out).mono ?_
        rw [decide_eq_true HM0.out]
        rintro e w1 ⟨rfl, rfl⟩
        go_wp2_with fail
        go_loopw [1, 6, 7, 8] (fun vv i _ _ wr => ∃ (k : Nat) (a : Option Addr) (n c : Nat) (lc : List Int), k ≤ xs.length ∧ i = .int .i64 k ∧ vv = .slice a n c ∧ Hid (Re.nameds (xs.take k) l = some lc) ∧ Hid (OwnInts wr base (.slice a n c) lc ∧ (∀ g, g ∈ own (.slice a n c) → g ∈ own (.slice va vn vc) ∨ w.heap.size < g) ∧ But (own (.slice va vn vc)) w wr ∧ Row wr w.heap.size [.int .i64 p.op, .int .u64 p.set.a, .int .u64 p.set.b, .int .u64 p.set.c, .int .u64 p.set.d, .int .i64 p.lo, .int .i64 p.hi, .int .i64 p.gr, .slice ad xs.length cap] 28)) (fun _ i _ _ _ => xs.length - (intOf i).toNat)
        case atStart => exact ⟨0, va, vn, vc, l, by omega, rfl, rfl, rfl, HOW.out.alloc _, fun g hg => .inl hg, (But.refl _ w).alloc _, Row.new (cs := [.int .i64 p.op, .int .u64 p.set.a, .int .u64 p.set.b, .int .u64 p.set.c, .int .u64 p.set.d, .int .i64 p.lo, .int .i64 p.hi, .int .i64 p.gr, .slice ad xs.length cap]) rfl⟩
        case round =>
          obtain ⟨k, a, n, c, lc, hk, rfl, rfl, hn, HX⟩ := hrel
          have q := HX.out.2.2.2.c9
          have hB := HX.out.2.2.2.lt
          have hgv := HOW.out.blocks
          have hwr := HX.out.2.2.1.size
          have HBL := hid (HBW.out.trans (HX.out.2.2.1.below (Nat.le_trans hbase hbs) (fun j hj => Nat.le_trans hbase (hgv j hj).1)))
          have HGV := hid hgv
          clear hgv
          have hln := Re.nameds_len _ _ _ hn.out
          have hct := Re.counts_take_le (fun _ => true) xs k
          by_cases hlt : k < xs.length
          · obtain ⟨b, o, p', ad', n', cap', rfl, HC, HI0, hbb⟩ := HAL.out.kid HBL.out k hlt
            have hst := Re.counts_take (fun _ => true) xs k xs[k] (by simp [hlt])
            have hst1 := Re.counts_take_le (fun _ => true) xs (k + 1)
            simp only [Re.sizes, Re.size] at *
            have HCA := hid (HIH.out xs[k] (by simp) wr _ (.slice a n c) lc HI0.out HBL.out (by omega) HX.out.1 (by omega))
            have HT := hid (Re.nameds_take xs k xs[k] l lc (by simp [hlt]) hn.out)
            have HN := hid (Re.nameds_none xs k xs[k] l lc (by simp [hlt]) hn.out)
            generalize hres : xs[k].named lc = res at HCA
            have HRES := hid hres
            clear hst hst1 hln hct hres
            go_wp2_with (first | (with_reducible (refine wpList_load_agg rfl 28 _ rfl b (o + (k * 9)) rfl _ _ HC.out Try.underlying28 rfl (size_re9 _ _ _ _ _ _ _ _ _) ?_)))
            refine HCA.out.mono ?_
            rintro e w2 ⟨hb2, a2, n2, c2, rfl, hm⟩
            have HB2 := hid hb2
            have HM := hid hm
            have HB3 : Hid (But (own (.slice va vn vc)) w w2) := HX.out.2.2.1.later hb2 (fun i hi => by rcases HX.out.2.1 i hi with h | h; exact .inl h; exact .inr (by omega))
            clear hb2 HCA hm
            cases res with
            | none =>
              go_wp2_with fail
              go_ret2
              refine ⟨HB3.out, a, n, c, ?_, fun n' hn' => ?_⟩
              · rw [HNMK.out, HN.out HRES.out]; rfl
              · rw [HNMK.out, HN.out HRES.out] at hn'; cases hn'
            | some l2 =>
              go_wp2_with fail
              go_roundw
              case rel =>
                refine ⟨k + 1, a2, n2, c2, l2, by omega, by go_num, rfl, ?_, (HM.out l2 rfl).1, fun g hg => ?_, HB3.out, HX.out.2.2.2.but HB2.out (fun hm => ?_)⟩
                · show _ = _
                  rw [HT.out, HRES.out]
                · rcases (HM.out l2 rfl).2 g hg with h | h
                  · exact HX.out.2.1 g h
                  · exact .inr (by omega)
                · rcases HX.out.2.1 _ hm with h | h
                  · have := (HGV.out _ h).2; omega
                  · omega
              case measure => simp [intOf]; omega
          · obtain rfl : k = xs.length := by omega
            have hn2 := hn.out
            rw [List.take_length] at hn2
            have HN2 := hid hn2
            clear hn2
            go_wp2_with fail
            go_ret2
            refine ⟨HX.out.2.2.1, a, n, c, ?_, fun n' hn' => ?_⟩
            · rw [HNMK.out, HN2.out]; rfl
            · rw [HNMK.out, HN2.out] at hn'
              cases hn'
              exact ⟨HX.out.1, fun g hg => by rcases HX.out.2.1 g hg with h | h; exact .inl h; exact .inr (by omega)⟩
      · have HNMK : Hid (Re.named (.mk p xs) l = none) := by show _ = _; rw [Re.named, if_pos ⟨o9, hm⟩]
        have HM0 := hid hm
        clear o9 hm
        go_enter Try.func27, Try.ntmps27
        go_wp2_with fail
        refine (HHAS.out _ HOA.out).mono ?_
        rw [decide_eq_false HM0.out]
        rintro e w1 ⟨rfl, rfl⟩
        go_wp2_with fail
        go_ret2
        refine ⟨(But.refl _ w).alloc _, va, vn, vc, by rw [HNMK.out]; rfl, fun n' hn' => by rw [HNMK.out] at hn'; cases hn'⟩
    · by_cases o6 : p.op = 6
      · have d9 : (p.op == 9) = false := by simpa using o9
        have d6 : (p.op == 6) = true := by simpa using o6
        have HNMK : Hid (Re.named (.mk p xs) l = (Re.nameds xs l).map (· ++ [p.gr])) := by show _ = _; rw [Re.named, if_neg (fun h => o9 h.1)]; simp only [if_pos o6]; cases Re.nameds xs l <;> rfl
        clear o9 o6
        go_enter Try.func27, Try.ntmps27
        go_wp2_with fail
        go_loopw [1, 6, 7, 8] (fun vv i _ _ wr => ∃ (k : Nat) (a : Option Addr) (n c : Nat) (lc : List Int), k ≤ xs.length ∧ i = .int .i64 k ∧ vv = .slice a n c ∧ Hid (Re.nameds (xs.take k) l = some lc) ∧ Hid (OwnInts wr base (.slice a n c) lc ∧ (∀ g, g ∈ own (.slice a n c) → g ∈ own (.slice va vn vc) ∨ w.heap.size < g) ∧ But (own (.slice va vn vc)) w wr ∧ Row wr w.heap.size [.int .i64 p.op, .int .u64 p.set.a, .int .u64 p.set.b, .int .u64 p.set.c, .int .u64 p.set.d, .int .i64 p.lo, .int .i64 p.hi, .int .i64 p.gr, .slice ad xs.length cap] 28)) (fun _ i _ _ _ => xs.length - (intOf i).toNat)
        case atStart => exact ⟨0, va, vn, vc, l, by omega, rfl, rfl, rfl, HOW.out.alloc _, fun g hg => .inl hg, (But.refl _ w).alloc _, Row.new (cs := [.int .i64 p.op, .int .u64 p.set.a, .int .u64 p.set.b, .int .u64 p.set.c, .int .u64 p.set.d, .int .i64 p.lo, .int .i64 p.hi, .int .i64 p.gr, .slice ad xs.length cap]) rfl⟩
        case round =>
          obtain ⟨k, a, n, c, lc, hk, rfl, rfl, hn, HX⟩ := hrel
          have q := HX.out.2.2.2.c9
          have hB := HX.out.2.2.2.lt
          have hgv := HOW.out.blocks
          have hwr := HX.out.2.2.1.size
          have HBL := hid (HBW.out.trans (HX.out.2.2.1.below (Nat.le_trans hbase hbs) (fun j hj => Nat.le_trans hbase (hgv j hj).1)))
          have HGV := hid hgv
          clear hgv
          have hln := Re.nameds_len _ _ _ hn.out
          have hct := Re.counts_take_le (fun _ => true) xs k
          by_cases hlt : k < xs.length
          · obtain ⟨b, o, p', ad', n', cap', rfl, HC, HI0, hbb⟩ := HAL.out.kid HBL.out k hlt
            have hst := Re.counts_take (fun _ => true) xs k xs[k] (by simp [hlt])
            have hst1 := Re.counts_take_le (fun _ => true) xs (k + 1)
            simp only [Re.sizes, Re.size] at *
            have HCA := hid (HIH.out xs[k] (by simp) wr _ (.slice a n c) lc HI0.out HBL.out (by omega) HX.out.1 (by omega))
            have HT := hid (Re.nameds_take xs k xs[k] l lc (by simp [hlt]) hn.out)
            have HN := hid (Re.nameds_none xs k xs[k] l lc (by simp [hlt]) hn.out)
            generalize hres : xs[k].named lc = res at HCA
            have HRES := hid hres
            clear hst hst1 hln hct hres
            go_wp2_with (first | (with_reducible (refine wpList_load_agg rfl 28 _ rfl b (o + (k * 9)) rfl _ _ HC.out Try.underlying28 rfl (size_re9 _ _ _ _ _ _ _ _ _) ?_)))
            refine HCA.out.mono ?_
            rintro e w2 ⟨hb2, a2, n2, c2, rfl, hm⟩
            have HB2 := hid hb2
            have HM := hid hm
            have HB3 : Hid (But (own (.slice va vn vc)) w w2) := HX.out.2.2.1.later hb2 (fun i hi => by rcases HX.out.2.1 i hi with h | h; exact .inl h; exact .inr (by omega))
            clear hb2 HCA hm
            cases res with
            | none =>
              go_wp2_with fail
              go_ret2
              refine ⟨HB3.out, a, n, c, ?_, fun n' hn' => ?_⟩
              · rw [HNMK.out, HN.out HRES.out]; rfl
              · rw [HNMK.out, HN.out HRES.out] at hn'; cases hn'
            | some l2 =>
              go_wp2_with fail
              go_roundw
              case rel =>
                refine ⟨k + 1, a2, n2, c2, l2, by omega, by go_num, rfl, ?_, (HM.out l2 rfl).1, fun g hg => ?_, HB3.out, HX.out.2.2.2.but HB2.out (fun hm => ?_)⟩
                · show _ = _
                  rw [HT.out, HRES.out]
                · rcases (HM.out l2 rfl).2 g hg with h | h
                  · exact HX.out.2.1 g h
                  · exact .inr (by omega)
                · rcases HX.out.2.1 _ hm with h | h
                  · have := (HGV.out _ h).2; omega
                  · omega
              case measure => simp [intOf]; omega
          · obtain rfl : k = xs.length := by omega
            have hn2 := hn.out
            rw [List.take_length] at hn2
            have HN2 := hid hn2
            clear hn2
            obtain ⟨i0, hi, hz0, hz1, hz2⟩ := info_parts info_int
            have hln2 := Re.nameds_len _ _ _ HN2.out
            have HA1 : Hid (wr.ownsRow base 3 1 (.slice a n c) lc.length (lc.map (Value.int .i64))) := HX.out.1
            have hlcl : lc.length ≤ 1048577 := by omega
            go_wp2_with (at_builtin; refine wpList_append_row rfl _ _ 69 rfl base 3 i0 (.int .i64 0) 1 8 Try.underlying69 hi hz0 hz1 hz2 rfl (by decide) _ _ _ rfl (HA1.out.alloc _) ⟨wr.heap.size, 0, none⟩ 1 1 [.int .i64 p.gr] rfl rfl ?c1 ?c2 ?c3 ?c4 ?c5 (by decide) ?_)
            case c1 => exact cell_one_new _ _ _
            case c2 => intro u hu; simp at hu; subst hu; rfl
            case c3 => unfold maxLen; omega
            case c4 => omega
            case c5 => simp; omega
            · intro a2 c2 w2 hown' hgrow hnw
              have hown2 : OwnInts w2 base (.slice a2 (lc.length + 1) c2) (lc ++ [p.gr]) := by
                unfold OwnInts
                simpa using hown'
              have HO2 := hid hown2
              have hnew : Hid (∀ g, g ∈ own (.slice a2 (lc.length + 1) c2) → g ∈ own (.slice a n c) ∨ wr.heap.size < g) := by
                intro g hg
                unfold own at hg ⊢
                cases hx : (Value.slice a2 (lc.length + 1) c2).ownBlock with
                | none => rw [hx] at hg; simp at hg
                | some k =>
                  rw [hx] at hg
                  simp at hg
                  subst hg
                  rcases hnw g hx with h | h
                  · exact .inl (by rw [h]; exact List.mem_singleton.2 rfl)
                  · have h5 : wr.heap.size + 1 ≤ g := by simpa using h
                    exact .inr (by omega)
              have hbut : Hid (But (own (.slice a n c)) (wr.alloc (.cells #[.int .i64 p.gr] 3)) w2) := But.of_grown hgrow
              clear hown' hgrow hown2 hnw
              go_wp2_with fail
              go_ret2
              refine ⟨HX.out.2.2.1.later (((But.refl _ wr).alloc _).trans hbut.out) (fun i hi => by rcases HX.out.2.1 i hi with h | h; exact .inl h; exact .inr (by omega)), a2, lc.length + 1, c2, ?_, fun n' hn' => ?_⟩
              · rw [HNMK.out, HN2.out]; rfl
              · rw [HNMK.out, HN2.out] at hn'
                cases hn'
                exact ⟨HO2.out, fun g hg => by
                  rcases hnew.out g hg with h | h
                  · rcases HX.out.2.1 g h with h | h
                    · exact .inl h
                    · exact .inr (by omega)
                  · exact .inr (by omega)⟩
      · have d9 : (p.op == 9) = false := by simpa using o9
        have d6 : (p.op == 6) = false := by simpa using o6
        have HNMK : Hid (Re.named (.mk p xs) l = Re.nameds xs l) := by show _ = _; rw [Re.named, if_neg (fun h => o9 h.1)]; simp only [if_neg o6]; cases Re.nameds xs l <;> rfl
        clear o9 o6
        go_enter Try.func27, Try.ntmps27
        go_wp2_with fail
        go_loopw [1, 6, 7, 8] (fun vv i _ _ wr => ∃ (k : Nat) (a : Option Addr) (n c : Nat) (lc : List Int), k ≤ xs.length ∧ i = .int .i64 k ∧ vv = .slice a n c ∧ Hid (Re.nameds (xs.take k) l = some lc) ∧ Hid (OwnInts wr base (.slice a n c) lc ∧ (∀ g, g ∈ own (.slice a n c) → g ∈ own (.slice va vn vc) ∨ w.heap.size < g) ∧ But (own (.slice va vn vc)) w wr ∧ Row wr w.heap.size [.int .i64 p.op, .int .u64 p.set.a, .int .u64 p.set.b, .int .u64 p.set.c, .int .u64 p.set.d, .int .i64 p.lo, .int .i64 p.hi, .int .i64 p.gr, .slice ad xs.length cap] 28)) (fun _ i _ _ _ => xs.length - (intOf i).toNat)
        case atStart => exact ⟨0, va, vn, vc, l, by omega, rfl, rfl, rfl, HOW.out.alloc _, fun g hg => .inl hg, (But.refl _ w).alloc _, Row.new (cs := [.int .i64 p.op, .int .u64 p.set.a, .int .u64 p.set.b, .int .u64 p.set.c, .int .u64 p.set.d, .int .i64 p.lo, .int .i64 p.hi, .int .i64 p.gr, .slice ad xs.length cap]) rfl⟩
        case round =>
          obtain ⟨k, a, n, c, lc, hk, rfl, rfl, hn, HX⟩ := hrel
          have q := HX.out.2.2.2.c9
          have hB := HX.out.2.2.2.lt
          have hgv := HOW.out.blocks
          have hwr := HX.out.2.2.1.size
          have HBL := hid (HBW.out.trans (HX.out.2.2.1.below (Nat.le_trans hbase hbs) (fun j hj => Nat.le_trans hbase (hgv j hj).1)))
          have HGV := hid hgv
          clear hgv
          have hln := Re.nameds_len _ _ _ hn.out
          have hct := Re.counts_take_le (fun _ => true) xs k
          by_cases hlt : k < xs.length
          · obtain ⟨b, o, p', ad', n', cap', rfl, HC, HI0, hbb⟩ := HAL.out.kid HBL.out k hlt
            have hst := Re.counts_take (fun _ => true) xs k xs[k] (by simp [hlt])
            have hst1 := Re.counts_take_le (fun _ => true) xs (k + 1)
            simp only [Re.sizes, Re.size] at *
            have HCA := hid (HIH.out xs[k] (by simp) wr _ (.slice a n c) lc HI0.out HBL.out (by omega) HX.out.1 (by omega))
            have HT := hid (Re.nameds_take xs k xs[k] l lc (by simp [hlt]) hn.out)
            have HN := hid (Re.nameds_none xs k xs[k] l lc (by simp [hlt]) hn.out)
            generalize hres : xs[k].named lc = res at HCA
            have HRES := hid hres
            clear hst hst1 hln hct hres
            go_wp2_with (first | (with_reducible (refine wpList_load_agg rfl 28 _ rfl b (o + (k * 9)) rfl _ _ HC.out Try.underlying28 rfl (size_re9 _ _ _ _ _ _ _ _ _) ?_)))
            refine HCA.out.mono ?_
            rintro e w2 ⟨hb2, a2, n2, c2, rfl, hm⟩
            have HB2 := hid hb2
            have HM := hid hm
            have HB3 : Hid (But (own (.slice va vn vc)) w w2) := HX.out.2.2.1.later hb2 (fun i hi => by rcases HX.out.2.1 i hi with h | h; exact .inl h; exact .inr (by omega))
            clear hb2 HCA hm
            cases res with
            | none =>
              go_wp2_with fail
              go_ret2
              refine ⟨HB3.out, a, n, c, ?_, fun n' hn' => ?_⟩
              · rw [HNMK.out, HN.out HRES.out]; rfl
              · rw [HNMK.out, HN.out HRES.out] at hn'; cases hn'
            | some l2 =>
              go_wp2_with fail
              go_roundw
              case rel =>
                refine ⟨k + 1, a2, n2, c2, l2, by omega, by go_num, rfl, ?_, (HM.out l2 rfl).1, fun g hg => ?_, HB3.out, HX.out.2.2.2.but HB2.out (fun hm => ?_)⟩
                · show _ = _
                  rw [HT.out, HRES.out]
                · rcases (HM.out l2 rfl).2 g hg with h | h
                  · exact HX.out.2.1 g h
                  · exact .inr (by omega)
                · rcases HX.out.2.1 _ hm with h | h
                  · have := (HGV.out _ h).2; omega
                  · omega
              case measure => simp [intOf]; omega
          · obtain rfl : k = xs.length := by omega
            have hn2 := hn.out
            rw [List.take_length] at hn2
            have HN2 := hid hn2
            clear hn2
            go_wp2_with fail
            go_ret2
            refine ⟨HX.out.2.2.1, a, n, c, ?_, fun n' hn' => ?_⟩
            · rw [HNMK.out, HN2.out]; rfl
            · rw [HNMK.out, HN2.out] at hn'
              cases hn'
              exact ⟨HX.out.1, fun g hg => by rcases HX.out.2.1 g hg with h | h; exact .inl h; exact .inr (by omega)⟩
end Go.Proofs.Ythnpbopnpdlmnaa

/- The check of a tree, the program's and the reference's: both return the same error. -/
namespace Go.Proofs.Ythnpbopnpdlmnaa
open Go.RowKit

set_option maxHeartbeats 2000000 in
theorem Check_any (t : Re) (w : World) (cs : List Value) (hIn : t.In w cs) (hsz : t.size ≤ 1048576) :
    Calls Try.prog 58 #[.agg cs.toArray] w fun e w' => e = .returned (.int .i64 t.err) ∧ Below w.heap.size w w' := by
  cases t with
  | mk p xs =>
    have hIn' := hIn
    rw [Re.In] at hIn
    obtain ⟨ad, cap, rfl, _⟩ := hIn
    simp only [Pay.cells]
    have HI := hid hIn'
    have HE := hid (Re.err_check (.mk p xs))
    have hnod := Re.check_nodes (.mk p xs) Ck.init
    have hgrp := Re.check_groups (.mk p xs) Ck.init
    have hlev := Re.check_levels (.mk p xs) Ck.init
    have hgl := Re.count_le (· == 6) (.mk p xs)
    have i1 : Ck.init.nodes = 0 := rfl
    have i2 : Ck.init.groups = 0 := rfl
    rw [i1] at hnod
    rw [i2] at hgrp
    have b1 : (Re.check (.mk p xs) Ck.init).1.nodes ≤ 1048576 := by omega
    have b2 : (Re.check (.mk p xs) Ck.init).1.groups ≤ 1048576 := by simp only [Re.groups] at *; omega
    have b3 : (Re.check (.mk p xs) Ck.init).2 ≤ 1048576 := by omega
    have hmm := @run_makeMap Try.prog
    clear hIn' hnod hgrp hlev hgl i1 i2
    go_enter Try.func58, Try.ntmps58
    go_wp2_with fail
    refine (node_any (w.heap.size + 2) (w.heap.size + 1) w (by omega) (by omega) (by omega) (.mk p xs) _ _ Ck.init HI.out ?_ ⟨?_, ?_⟩ ?_ ?_).mono ?_
    · exact ((((Below.refl _ w).alloc (Nat.le_refl _) _).alloc (by simp) _).alloc (by simp; omega) _)
    · exact Row.new (cs := [_, _, _, _, _, _, _]) (by simp)
    · have := (IMap.new (w := w.alloc (.cells #[.int .i64 p.op, .int .u64 p.set.a, .int .u64 p.set.b, .int .u64 p.set.c, .int .u64 p.set.d, .int .i64 p.lo, .int .i64 p.hi, .int .i64 p.gr, .slice ad xs.length cap] 28)) (M := w.heap.size + 1) (by simp)).alloc (.cells #[.bool false, .bool false, .bool false, .int .i64 0, .int .i64 0, .slice none 0 0, .map (some (w.heap.size + 1))] 134)
      exact this
    · show 0 + _ ≤ _; omega
    · exact Nat.le_refl _
    rintro e w1 ⟨rfl, hb, hck⟩
    have hbw : Hid (Below w.heap.size w w1) := ((((Below.refl _ w).alloc (Nat.le_refl _) _).alloc (by simp) _).alloc (by simp; omega) _).trans (hb.below (by simp; omega) (fun k hk => by simp at hk; omega))
    have q := hck.1.c7
    have hR := hck.1.lt
    generalize hlv : (Re.check (.mk p xs) Ck.init).2 = lv at *
    generalize hcc : (Re.check (.mk p xs) Ck.init).1 = c1 at *
    clear hb hck hlv hcc hmm
    have HER := hid (Ck.err.eq_1 c1 lv)
    cases hs : c1.shape
    · rw [hs] at q HER
      clear hs
      cases hs : c1.bounds
      · rw [hs] at q HER
        clear hs
        cases hs : c1.name
        · rw [hs] at q HER
          clear hs
          go_wp2_with fail
          all_goals
            go_ret
            refine ⟨ret_int ?_, hbw.out⟩
            rw [← HE.out, HER.out]
            simp
            omega
        · rw [hs] at q HER
          clear hs
          go_wp2_with fail
          go_ret
          exact ⟨ret_int (by rw [← HE.out, HER.out]; simp), hbw.out⟩
      · rw [hs] at q HER
        clear hs
        go_wp2_with fail
        go_ret
        exact ⟨ret_int (by rw [← HE.out, HER.out]; simp), hbw.out⟩
    · rw [hs] at q HER
      clear hs
      go_wp2_with fail
      go_ret
      exact ⟨ret_int (by rw [← HE.out, HER.out]; simp), hbw.out⟩
end Go.Proofs.Ythnpbopnpdlmnaa

/- A tree that Check lets pass. -/
namespace Go.Proofs.Ythnpbopnpdlmnaa
open Go.RowKit

theorem shaped_ok {p : Pay} {n : Nat} (h : p.shaped n = true) : (1 ≤ p.op ∧ p.op ≤ 9) ∧ (p.op = 3 ∨ p.op = 4 → 2 ≤ n) ∧ (p.op = 5 ∨ p.op = 6 → n = 1) := by
  unfold Pay.shaped at h
  split at h
  · rename_i h1; refine ⟨by omega, fun h => by omega, fun h => by omega⟩
  split at h
  · rename_i h1; refine ⟨by omega, fun h => by omega, fun h => by omega⟩
  split at h
  · rename_i h1
    simp only [Bool.and_eq_true, decide_eq_true_eq] at h
    refine ⟨by omega, fun _ => h.1.1.1, fun h => by omega⟩
  split at h
  · rename_i h1
    simp only [Bool.and_eq_true, decide_eq_true_eq] at h
    refine ⟨by omega, fun h => by omega, fun _ => h.1.1⟩
  split at h
  · rename_i h1
    simp only [Bool.and_eq_true, decide_eq_true_eq] at h
    refine ⟨by omega, fun h => by omega, fun _ => h.1.1⟩
  split at h
  · rename_i h1; refine ⟨by omega, fun h => by omega, fun h => by omega⟩
  · cases h
mutual
theorem Re.ok_aux (N : Nat) : ∀ (t : Re) (b n : Nat) (l l' : List Int), t.typed = true → t.ranged b = some n → t.named l = some l' → n ≤ N → (∀ g, g ∈ l → 1 ≤ g ∧ g ≤ N) → t.size ≤ 1000000 → t.ok N ∧ (∀ g, g ∈ l' → 1 ≤ g ∧ g ≤ N)
  | .mk p xs, b, n, l, l', h1, h2, h3, hn, hl, hs => by
    rw [Re.typed, Bool.and_eq_true] at h1
    rw [Re.ranged] at h2
    rw [Re.named] at h3
    rw [Re.size_mk] at hs
    obtain ⟨s1, s2, s3⟩ := shaped_ok h1.1
    split at h2
    · cases h2
    split at h3
    · cases h3
    rename_i h5 h9
    have hx : ∀ (b' : Nat), Re.rangeds xs b' = some n → (p.op = 6 → p.gr = b' ∧ 1 ≤ b') → (Re.mk p xs).ok N ∧ (∀ g, g ∈ l' → 1 ≤ g ∧ g ≤ N) := by
      intro b' hr hb'
      have hg := Re.rangeds_groups xs b' n hr
      cases hm : Re.nameds xs l with
      | none => rw [hm] at h3; cases h3
      | some l2 =>
        rw [hm] at h3
        obtain ⟨k1, k2⟩ := Re.oks_aux N xs b' n l l2 h1.2 hr hm hn hl (by omega)
        refine ⟨?_, ?_⟩
        · rw [Re.ok]
          refine ⟨⟨s1, by omega⟩, fun h => ?_, fun h => ?_, fun h => ?_, k1⟩
          · have := s2 h; rintro rfl; simp at this
          · have := s3 h
            match xs, this with
            | [x], _ => exact ⟨x, rfl⟩
          · rcases h with h | h
            · have := hb' h; omega
            · have : p.gr ∈ l := by
                by_cases hm : p.gr ∈ l
                · exact hm
                · exact absurd ⟨h, hm⟩ h9
              exact hl _ this
        · intro g hgm
          by_cases h6 : p.op = 6
          · simp only [h6, if_true] at h3
            have h3' := Option.some.inj h3
            subst h3'
            rcases List.mem_append.1 hgm with hgm | hgm
            · exact k2 g hgm
            · have := List.mem_singleton.1 hgm; have := hb' h6; omega
          · simp only [h6, if_false] at h3
            have h3' := Option.some.inj h3
            subst h3'
            exact k2 g hgm
    split at h2
    · rename_i h6
      split at h2
      · rename_i hgr
        exact hx (b + 1) h2 (fun _ => ⟨by omega, by omega⟩)
      · cases h2
    · rename_i h6
      exact hx b h2 (fun h => absurd h h6)
theorem Re.oks_aux (N : Nat) : ∀ (xs : List Re) (b n : Nat) (l l' : List Int), Re.typeds xs = true → Re.rangeds xs b = some n → Re.nameds xs l = some l' → n ≤ N → (∀ g, g ∈ l → 1 ≤ g ∧ g ≤ N) → Re.sizes xs ≤ 1000000 → Re.oks N xs ∧ (∀ g, g ∈ l' → 1 ≤ g ∧ g ≤ N)
  | [], b, n, l, l', h1, h2, h3, hn, hl, hs => by
    rw [Re.nameds] at h3
    have := Option.some.inj h3
    subst this
    exact ⟨by rw [Re.oks]; trivial, hl⟩
  | t :: ts, b, n, l, l', h1, h2, h3, hn, hl, hs => by
    rw [Re.typeds, Bool.and_eq_true] at h1
    rw [Re.rangeds] at h2
    rw [Re.nameds] at h3
    have hs2 : t.size + Re.sizes ts ≤ 1000000 := hs
    cases hr : t.ranged b with
    | none => rw [hr] at h2; cases h2
    | some b2 =>
      rw [hr] at h2
      cases hm : t.named l with
      | none => rw [hm] at h3; cases h3
      | some l2 =>
        rw [hm] at h3
        have hb2 := Re.rangeds_groups ts b2 n h2
        obtain ⟨k1, k2⟩ := Re.ok_aux N t b b2 l l2 h1.1 hr hm (by omega) hl (by omega)
        obtain ⟨k3, k4⟩ := Re.oks_aux N ts b2 n l2 l' h1.2 h2 h3 hn k2 (by omega)
        exact ⟨by rw [Re.oks]; exact ⟨k1, k3⟩, k4⟩
end
theorem Re.ok_err {t : Re} (h : t.err = 0) : t.ok t.groups ∧ t.groups ≤ 9 ∧ t.size ≤ 600 := by
  unfold Re.err at h
  cases h1 : t.typed with
  | false => simp [h1] at h
  | true =>
    cases h2 : t.ranged 0 with
    | none => simp [h1, h2] at h
    | some n =>
      cases h3 : t.named [] with
      | none => simp [h1, h2, h3] at h
      | some l =>
        simp only [h1, h2, h3] at h
        have hlim : ¬ (600 < t.size ∨ 9 < t.groups ∨ 32 < t.levels) := by
          intro hx; simp [hx] at h
        have hg := Re.ranged_groups t 0 n h2
        exact ⟨(Re.ok_aux t.groups t 0 n [] l h1 h2 h3 (by omega) (fun g hg => by cases hg) (by omega)).1, by omega, by omega⟩

def chk (t : Re) (s : ByteArray) (at_ : Int) : Int := if t.err ≠ 0 then t.err else if at_ < 0 ∨ (s.size : Int) < at_ then 2 else 0
theorem chk_zero {t : Re} {s : ByteArray} {at_ : Int} (h : chk t s at_ = 0) : t.err = 0 ∧ 0 ≤ at_ ∧ at_ ≤ s.size := by
  unfold chk at h
  by_cases h1 : t.err ≠ 0
  · rw [if_pos h1] at h; exact absurd h h1
  · rw [if_neg h1] at h
    by_cases h2 : at_ < 0 ∨ (s.size : Int) < at_
    · rw [if_pos h2] at h; cases h
    · exact ⟨by omega, by omega, by omega⟩
end Go.Proofs.Ythnpbopnpdlmnaa

/- The reference of the parses: trees without parts. -/
namespace Go.Proofs.Ythnpbopnpdlmnaa
open Go.RowKit
attribute [local go_sem] gives givesUpon

set_option maxRecDepth 100000 in
set_option maxHeartbeats 8000000 in
theorem rpar1 (wb : World) (N : Nat) (hN : N ≤ 9) (s : ByteArray) (hs : s.size ≤ 1000000) (lines : Bool) (p : Pay) (xs : List Re) (hop : p.op = 1) : RPar wb N s lines (.mk p xs) := by
  intro w cs sa sc sp i hIn hok hsz hbw hsp hspo hi
  rw [Re.In] at hIn
  obtain ⟨ad, cap, rfl, hwf, -⟩ := hIn
  simp only [Pay.cells]
  have hT : Two w s lines [.int .i64 p.op, .int .u64 p.set.a, .int .u64 p.set.b, .int .u64 p.set.c, .int .u64 p.set.d, .int .i64 p.lo, .int .i64 p.hi, .int .i64 p.gr, .slice ad xs.length cap] ((w.alloc (.cells #[.string s, .bool lines] 75)).alloc (.cells #[.int .i64 p.op, .int .u64 p.set.a, .int .u64 p.set.b, .int .u64 p.set.c, .int .u64 p.set.d, .int .i64 p.lo, .int .i64 p.hi, .int .i64 p.gr, .slice ad xs.length cap] 28)) := ⟨(Row.new rfl).alloc _, Row.new (by simp), ((Below.refl _ _).alloc (Nat.le_refl _) _).alloc (by simp) _⟩
  have HT := hid hT
  have HS := hid (hsp.below hT.2.2)
  have q0 := hT.1.two9
  have q1 := hT.2.1.c9
  have HSO := hid hspo
  have HO := hid hop
  have HWF := hid hwf
  have hsl : s.data.toList.length = s.size := by rw [Array.length_toList]; rfl
  have HSL := hid hsl
  rw [Re.ok] at hok
  have hgr := hok.2.2.2.1
  have hspl : sp.length ≤ 9 := by have := hspo.1; omega
  clear hT hsp hspo hsl hok hwf
  have HR : Hid (fin s.size [(i, sp)] = parses s.data.toList lines (.mk p xs) i sp) := by show _ = _; rw [parses, if_pos hop, fin_one (by exact hi)]
  clear hop
  have e1 : (p.op == 1) = true := by rw [HO.out]; decide
  go_enter Try.func31, Try.ntmps31
  go_wp2_with fail
  refine (radd_any _ w.heap.size (.slice none 0 0) (.slice sa sp.length sc) [] i sp (OwnP.nil _ _) HS.out (by simp) HT.out.2.2.size (fun q hq => by have := List.mem_singleton.1 hq; subst this; exact ⟨by show sp.length ≤ 9; omega, by show i ≤ _; omega⟩)).mono ?_
  rintro e w1 ⟨a1, c1, rfl, ho, hg, -⟩
  have hT1 := HT.out.later (grown_nil hg)
  have HT1 := hid hT1
  have HO1 := hid ho.psq
  have q2 := hT1.1.two9
  have q3 := hT1.2.1.c9
  clear ho hg hT1
  have hl1 : (addP [] (i, sp)).length = 1 := rfl
  rw [hl1] at HO1 ⊢
  go_wp2_with fail
  refine (rdone_any _ _ _ [(i, sp)] [(i, sp)] s lines rfl HO1.out (by simp) hs).mono ?_
  rintro e w2 hr
  obtain ⟨a2, n2, c2, b2, rfl, HRR⟩ := hr.on HT1.out.2.2 HR.out
  clear hr
  go_wp2_with fail
  go_ret2
  exact HRR.out
end Go.Proofs.Ythnpbopnpdlmnaa
