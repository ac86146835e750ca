/- The functions on sets of bytes: what each call returns. -/
import Derived.Test.YthnpbopnpdlmnaaDoorProg
import Derived.Test.YthnpbopnpdlmnaaDoorA01
import Derived.RegionTactic
import Derived.BigQuiet
import Derived.BigRegion
import Derived.Test.YthnpbopnpdlmnaaDoorA02
namespace Go.Proofs.YthnpbopnpdlmnaaDoor
open Go.RowKit
attribute [local go_sem] gives givesUpon

def Cs.word (s : Cs) (q : Nat) : Nat := match q with | 0 => s.a | 1 => s.b | 2 => s.c | _ => s.d
def Cs.has (s : Cs) (c : Nat) : Bool := (s.word (c / 64)).testBit (c % 64)
def Cs.ins (s : Cs) (c : Nat) : Cs :=
  match c / 64 with
  | 0 => { s with a := s.a ||| 2 ^ (c % 64) }
  | 1 => { s with b := s.b ||| 2 ^ (c % 64) }
  | 2 => { s with c := s.c ||| 2 ^ (c % 64) }
  | _ => { s with d := s.d ||| 2 ^ (c % 64) }

theorem or_lt64 {a b : Nat} (ha : W64 a) (hb : W64 b) : W64 (a ||| b) := Nat.or_lt_two_pow (n := 64) ha hb
theorem pow_lt64 {r : Nat} (h : r < 64) : W64 (2 ^ r) := Nat.pow_lt_pow_right (by decide) h
theorem Cs.ins_wf {s : Cs} (hs : s.wf) (c : Nat) : (s.ins c).wf := by
  have hr : W64 (2 ^ (c % 64)) := pow_lt64 (Nat.mod_lt _ (by decide))
  unfold Cs.ins
  split
  · exact ⟨or_lt64 hs.a hr, hs.b, hs.c, hs.d⟩
  · exact ⟨hs.a, or_lt64 hs.b hr, hs.c, hs.d⟩
  · exact ⟨hs.a, hs.b, or_lt64 hs.c hr, hs.d⟩
  · exact ⟨hs.a, hs.b, hs.c, or_lt64 hs.d hr⟩

theorem has_bit (x r : Nat) (hx : W64 x) : (bits .and .u64 ((x : Int) / 2 ^ r) 1 == 1) = x.testBit r := by
  have e : ((x : Int) / 2 ^ r) = ((x / 2 ^ r : Nat) : Int) := by simp
  rw [e]
  have h1 : x / 2 ^ r < 18446744073709551616 := Nat.lt_of_le_of_lt (Nat.div_le_self _ _) hx
  have h2 := bits_and_u64_nat (x / 2 ^ r) 1 h1 (by decide)
  simp only [Int.natCast_one] at h2
  rw [h2, Nat.and_one_is_mod, Nat.testBit_eq_decide_div_mod_eq]
  by_cases h : x / 2 ^ r % 2 = 1
  · simp [h]
  · have : x / 2 ^ r % 2 = 0 := by omega
    simp [this]

theorem add_bit {x r : Nat} (h : x.testBit r = false) : x + 2 ^ r = x ||| 2 ^ r := by
  apply Nat.eq_of_testBit_eq
  intro j
  rw [Nat.testBit_or, Nat.testBit_two_pow]
  by_cases hj : r = j
  · subst hj; simp [h]; rw [Nat.add_comm, Nat.testBit_two_pow_add_eq, h]; rfl
  · rcases Nat.lt_or_gt_of_ne hj with hlt | hgt
    · have e : x + 2 ^ r = 2 ^ r * (x / 2 ^ r + 1) + x % 2 ^ r := by
        have := Nat.div_add_mod x (2 ^ r)
        rw [Nat.mul_add, Nat.mul_one]; omega
      have e2 : x = 2 ^ r * (x / 2 ^ r) + x % 2 ^ r := (Nat.div_add_mod x (2 ^ r)).symm
      have hm : x % 2 ^ r < 2 ^ r := Nat.mod_lt _ (Nat.two_pow_pos r)
      have h0 : (x / 2 ^ r) % 2 = 0 := by
        have := Nat.testBit_eq_decide_div_mod_eq (x := x) (i := r)
        rw [h] at this
        have h1 : ¬ x / 2 ^ r % 2 = 1 := by simpa using this.symm
        omega
      rw [e, Nat.testBit_two_pow_mul_add _ hm, if_neg (by omega)]
      conv => rhs; rw [e2, Nat.testBit_two_pow_mul_add _ hm, if_neg (by omega)]
      have hd : decide (r = j) = false := by simp; omega
      rw [hd, Bool.or_false]
      obtain ⟨d, hd⟩ : ∃ d, j - r = d + 1 := ⟨j - r - 1, by omega⟩
      rw [hd, Nat.testBit_succ, Nat.testBit_succ]
      congr 1
      omega
    · rw [Nat.add_comm, Nat.testBit_two_pow_add_gt (by omega)]
      simp; omega

set_option maxHeartbeats 400000 in
theorem Has_any (s : Cs) (c : Nat) (w : World) (hs : s.wf) (hc : c < 256) :
    Calls Tryd.prog 26 #[.agg #[.int .u64 s.a, .int .u64 s.b, .int .u64 s.c, .int .u64 s.d], .int .u8 c] w fun e w' => e = .returned (.bool (s.has c)) ∧ Below w.heap.size w w' := by
  have h1 : ((c : Int) / 64 = 0 ∨ (c : Int) / 64 = 1 ∨ (c : Int) / 64 = 2 ∨ (c : Int) / 64 = 3) := by omega
  have h0 : (0 : Int) ≤ c ∧ (c : Int) < 256 := by omega
  have h2 : 0 ≤ (c : Int) % 64 ∧ (c : Int) % 64 < 64 := by omega
  rcases h1 with h | h | h | h
  all_goals
    go_enter Tryd.func26, Tryd.ntmps26
    go_wp2
    go_ret
    refine ⟨congrArg (fun b => Ending.returned (.bool b)) ((has_bit _ _ ?_).trans ?_), (Below.refl _ _).alloc (Nat.le_refl _) _⟩
    · first | exact hs.a | exact hs.b | exact hs.c | exact hs.d
    · unfold Cs.has Cs.word
      first | (rw [show c / 64 = 0 by omega]; done) | (rw [show c / 64 = 0 by omega]; rfl) | (rw [show c / 64 = 1 by omega]; rfl) | (rw [show c / 64 = 2 by omega]; rfl) | (rw [show c / 64 = 3 by omega]; rfl)

theorem word_ins {x r : Nat} (hx : W64 x) (hr : r < 64) (h : x.testBit r = false) : IntKind.u64.wrap ((x : Int) + IntKind.u64.wrap (2 ^ r)) = ((x ||| 2 ^ r : Nat) : Int) := by
  have h1 := pow_lt64 hr
  have h2 := or_lt64 hx h1
  have h3 := add_bit h
  unfold W64 at *
  rw [IntKind.wrap_u64, IntKind.wrap_u64]
  have e : ((2 : Int) ^ r) = ((2 ^ r : Nat) : Int) := by simp
  rw [e, ← h3]
  omega

theorem size_cs : (Tryd.prog.info? 25).map (·.size) = some 4 := by kernel_rfl
theorem Cs.ins_same {s : Cs} {c : Nat} (h : s.has c = true) : s.ins c = s := by
  unfold Cs.has Cs.word at h
  unfold Cs.ins
  have key : ∀ x : Nat, x.testBit (c % 64) = true → x ||| 2 ^ (c % 64) = x := by
    intro x hx
    apply Nat.eq_of_testBit_eq
    intro j
    rw [Nat.testBit_or, Nat.testBit_two_pow]
    by_cases hj : c % 64 = j
    · subst hj; simp [hx]
    · simp [hj]
  split at h <;> rename_i he <;> (try rw [he]) <;> simp [key _ h]

theorem Cs.ins0 {s : Cs} {c : Nat} (h : c / 64 = 0) : s.ins c = ⟨s.a ||| 2 ^ (c % 64), s.b, s.c, s.d⟩ := by unfold Cs.ins; rw [h]; rfl
theorem Cs.ins1 {s : Cs} {c : Nat} (h : c / 64 = 1) : s.ins c = ⟨s.a, s.b ||| 2 ^ (c % 64), s.c, s.d⟩ := by unfold Cs.ins; rw [h]; rfl
theorem Cs.ins2 {s : Cs} {c : Nat} (h : c / 64 = 2) : s.ins c = ⟨s.a, s.b, s.c ||| 2 ^ (c % 64), s.d⟩ := by unfold Cs.ins; rw [h]; rfl
theorem Cs.ins3 {s : Cs} {c : Nat} (h : c / 64 = 3) : s.ins c = ⟨s.a, s.b, s.c, s.d ||| 2 ^ (c % 64)⟩ := by unfold Cs.ins; rw [h]; rfl

set_option maxHeartbeats 1000000 in
theorem With_any (s : Cs) (c : Nat) (w : World) (hs : s.wf) (hc : c < 256) :
    Calls Tryd.prog 38 #[.agg #[.int .u64 s.a, .int .u64 s.b, .int .u64 s.c, .int .u64 s.d], .int .u8 c] w fun e w' =>
      e = .returned (.agg #[.int .u64 (s.ins c).a, .int .u64 (s.ins c).b, .int .u64 (s.ins c).c, .int .u64 (s.ins c).d]) ∧ Below w.heap.size w w' := by
  have h1 : ((c : Int) / 64 = 0 ∨ (c : Int) / 64 = 1 ∨ (c : Int) / 64 = 2 ∨ (c : Int) / 64 = 3) := by omega
  have h0 : (0 : Int) ≤ c ∧ (c : Int) < 256 := by omega
  have h2 : 0 ≤ (c : Int) % 64 ∧ (c : Int) % 64 < 64 := by omega
  have HB : Hid (∀ w, Calls Tryd.prog 26 #[.agg #[.int .u64 s.a, .int .u64 s.b, .int .u64 s.c, .int .u64 s.d], .int .u8 c] w fun e w' => e = .returned (.bool (s.has c)) ∧ Below w.heap.size w w') := fun w => Has_any s c w hs hc
  by_cases hh : s.has c = true
  · rw [hh] at HB
    go_enter Tryd.func38, Tryd.ntmps38
    go_wp2_with fail
    refine (HB.out _).mono ?_
    rintro e w1 ⟨rfl, hb⟩
    have hr1 := ((Row.at w s.cells 25).alloc (.cells #[.int .u64 0, .int .u64 0, .int .u64 0, .int .u64 0] 25)).below hb (by simp; omega)
    have hr2 := (Row.at (w.alloc (.cells s.cells.toArray 25)) [.int .u64 0, .int .u64 0, .int .u64 0, .int .u64 0] 25).below hb (by simp [Cs.cells])
    simp only [Cs.cells] at hr1 hr2
    obtain ⟨p1, q1⟩ := hr1.c4
    obtain ⟨p2, q2⟩ := hr2.c4
    have hsz := hb.size
    have hsz2 : w.heap.size + 1 < w1.heap.size := by simp at hsz; omega
    simp at p2 q2
    have HC : Hid (Below w.heap.size w w1) := ((Below.refl _ w).alloc (Nat.le_refl _) _ |>.alloc (by simp) _).trans (hb.mono (by simp; omega))
    clear HB hsz hr1 hr2 hb
    have H0 := hid hh
    clear hh
    go_wp2_with fail
    refine ret_row 4 25 rfl (w.heap.size + 1) rfl [.int .u64 (s.ins c).a, .int .u64 (s.ins c).b, .int .u64 (s.ins c).c, .int .u64 (s.ins c).d] (CellsAt.of4 ?_ ?_ ?_ ?_) _ Tryd.underlying25 rfl size_cs rfl ⟨rfl, ?_⟩
    any_goals (rw [Cs.ins_same H0.out]; go_simp; done)
    exact (((HC.out.setCell (by simp) _).setCell (by simp) _).setCell (by simp) _).setCell (by simp) _
  have hh' : s.has c = false := by simpa using hh
  rw [hh'] at HB
  rcases h1 with h | h | h | h
  all_goals
    have hi : (s.word (c / 64)).testBit (c % 64) = false := hh'
    first | rw [show c / 64 = 0 by omega] at hi | rw [show c / 64 = 1 by omega] at hi | rw [show c / 64 = 2 by omega] at hi | rw [show c / 64 = 3 by omega] at hi
    have H0 := hid hi
    first | have HS := hid (Cs.ins0 (s := s) (c := c) (by omega)) | have HS := hid (Cs.ins1 (s := s) (c := c) (by omega)) | have HS := hid (Cs.ins2 (s := s) (c := c) (by omega)) | have HS := hid (Cs.ins3 (s := s) (c := c) (by omega))
    clear hh hh' hi
    go_enter Tryd.func38, Tryd.ntmps38
    go_wp2_with fail
    refine (HB.out _).mono ?_
    rintro e w1 ⟨rfl, hb⟩
    have hr1 := ((Row.at w s.cells 25).alloc (.cells #[.int .u64 0, .int .u64 0, .int .u64 0, .int .u64 0] 25)).below hb (by simp; omega)
    have hr2 := (Row.at (w.alloc (.cells s.cells.toArray 25)) [.int .u64 0, .int .u64 0, .int .u64 0, .int .u64 0] 25).below hb (by simp [Cs.cells])
    simp only [Cs.cells] at hr1 hr2
    obtain ⟨p1, q1⟩ := hr1.c4
    obtain ⟨p2, q2⟩ := hr2.c4
    have hsz := hb.size
    have hsz2 : w.heap.size + 1 < w1.heap.size := by simp at hsz; omega
    simp at p2 q2
    have HC : Hid (Below w.heap.size w w1) := ((Below.refl _ w).alloc (Nat.le_refl _) _ |>.alloc (by simp) _).trans (hb.mono (by simp; omega))
    clear HB hsz hr1 hr2 hb
    go_wp2_with fail
    rw [HS.out]
    refine ret_row 4 25 rfl (w.heap.size + 1) rfl _ (CellsAt.of4 ?_ ?_ ?_ ?_) _ Tryd.underlying25 rfl size_cs rfl ⟨rfl, ?_⟩
    any_goals (go_simp; done)
    any_goals exact ((((HC.out.setCell (by simp) _).setCell (by simp) _).setCell (by simp) _).setCell (by simp) _).setCell (by simp) _
    all_goals
      go_simp
      first | exact word_ins hs.a (Nat.mod_lt _ (by decide)) H0.out | exact word_ins hs.b (Nat.mod_lt _ (by decide)) H0.out | exact word_ins hs.c (Nat.mod_lt _ (by decide)) H0.out | exact word_ins hs.d (Nat.mod_lt _ (by decide)) H0.out


def Cs.of (l : List UInt8) : Cs := l.foldl (fun s c => s.ins c.toNat) Cs.none
theorem Cs.foldl_wf (l : List UInt8) : ∀ s : Cs, s.wf → (l.foldl (fun s c => s.ins c.toNat) s).wf := by
  induction l with
  | nil => intro s h; exact h
  | cons c l ih => intro s h; exact ih _ (Cs.ins_wf h _)
theorem Cs.of_wf (l : List UInt8) : (Cs.of l).wf := Cs.foldl_wf l _ Cs.none_wf
theorem Cs.of_snoc (s : ByteArray) (k : Nat) (h : k < s.size) : Cs.of (s.data.toList.take (k + 1)) = (Cs.of (s.data.toList.take k)).ins s[k].toNat := by
  rw [List.take_succ_eq_append_getElem (by simpa using h)]
  simp [Cs.of, List.foldl_append]
  rfl

set_option maxHeartbeats 1000000 in
theorem Of_any (s : ByteArray) (w : World) (hl : s.size ≤ 1048576) :
    Calls Tryd.prog 27 #[.string s] w fun e w' => e = .returned (.agg #[.int .u64 (Cs.of s.data.toList).a, .int .u64 (Cs.of s.data.toList).b, .int .u64 (Cs.of s.data.toList).c, .int .u64 (Cs.of s.data.toList).d]) ∧ Below w.heap.size w w' := by
  go_enter Tryd.func27, Tryd.ntmps27
  go_wp2
  go_loopw [4] (fun i wr => ∃ (k : Nat) (t : Cs), k ≤ s.size ∧ i = .int .i64 k ∧ Hid (t = Cs.of (s.data.toList.take k)) ∧ t.wf ∧ Hid (Row wr (w.heap.size + 1) [.int .u64 t.a, .int .u64 t.b, .int .u64 t.c, .int .u64 t.d] 25 ∧ Row wr w.heap.size [.int .u64 0, .int .u64 0, .int .u64 0, .int .u64 0] 25 ∧ Below w.heap.size w wr)) (fun i _ => s.size - (intOf i).toNat)
  case atStart => exact ⟨0, Cs.none, by omega, rfl, rfl, Cs.none_wf, Row.new (cs := [.int .u64 0, .int .u64 0, .int .u64 0, .int .u64 0]) (by simp), (Row.new (cs := [.int .u64 0, .int .u64 0, .int .u64 0, .int .u64 0]) rfl).alloc _, ((Below.refl _ w).alloc (Nat.le_refl _) _).alloc (by simp) _⟩
  case round =>
    obtain ⟨k, t, hk, rfl, ht, htw, HX⟩ := hrel
    have p1 := HX.out.1.c4
    have p2 := HX.out.2.1.c4
    have h1 := HX.out.1.lt
    have h2 := HX.out.2.1.lt
    by_cases hlt : k < s.size
    · have hc := s[k].toNat_lt
      have HW := hid (With_any t s[k].toNat)
      have HT := hid (Cs.of_snoc s k hlt)
      have HC : Hid (∀ x, Below wr.heap.size wr.drew x → (x.cell? ⟨w.heap.size + 1, 0, none⟩ = some (.int .u64 t.a) ∧ x.cell? ⟨w.heap.size + 1, 1, none⟩ = some (.int .u64 t.b) ∧ x.cell? ⟨w.heap.size + 1, 2, none⟩ = some (.int .u64 t.c) ∧ x.cell? ⟨w.heap.size + 1, 3, none⟩ = some (.int .u64 t.d))) := fun x hx => (HX.out.1.drew.below hx h1).c4.1
      go_wp2_with fail
      refine wp_region_inv 5 (Below wr.heap.size) (by kernel_rfl) (by kernel_rfl) (Below.refl _) (fun _ _ _ => Below.trans) ?_
      simp only [fill, dstOf, Act.put, List.take_succ_cons, List.take_zero, List.getElem?_toArray, List.getElem?_cons_zero, List.getElem?_cons_succ, Option.bind_some, List.setIfInBounds_toArray, List.set_cons_zero, List.set_cons_succ]
      refine Plan.det 1 rfl (Below.refl _) ?_
      apply Exists.intro
      refine ⟨fun vs x hR hF K hK => ?_, ?_⟩
      · have hc := HC.out x hR; clear hF
        go_simp
        exact hK _ _ (Below.refl _ _) rfl
      refine Plan.det 2 rfl (Below.refl _) ?_
      apply Exists.intro
      refine ⟨fun vs x hR hF K hK => ?_, ?_⟩
      · clear hF
        go_simp
        exact hK _ _ (Below.refl _ _) rfl
      refine Plan.det 3 rfl (Below.refl _) ?_
      apply Exists.intro
      refine ⟨fun vs x hR hF K hK => ?_, ?_⟩
      · clear hF
        go_simp
        exact hK _ _ (Below.refl _ _) rfl
      refine Plan.det 4 rfl (Below.refl _) ?_
      apply Exists.intro
      refine ⟨fun vs x hR hF K hK => ?_, ?_⟩
      · have f1 := hF 1 _ _ rfl rfl; have f2 := hF 0 _ _ rfl rfl; clear hF
        go_simp
        exact hK _ _ (Below.refl _ _) rfl
      refine Plan.det 5 rfl (Below.refl _) ?_
      apply Exists.intro
      refine ⟨fun vs x hR hF K hK => ?_, ?_⟩
      · have f0 := hF 3 _ _ rfl rfl; have f3 := hF 0 _ _ rfl rfl; clear hF
        go_simp
        refine (HW.out _ htw hc).mono ?_
        rintro e x1 ⟨rfl, hbe⟩
        exact ⟨_, rfl, hK _ _ (hbe.mono hR.size) rfl⟩
      refine Plan.nil (fun vs x hR hF => ?_)
      have f0 := hF 4 _ _ rfl; have f1 := hF 3 _ _ rfl; have f2 := hF 2 _ _ rfl; have f3 := hF 1 _ _ rfl; have f4 := hF 0 _ _ rfl
      clear hF
      simp only [f0, f1, f2, f3, f4]
      clear f0 f1 f2 f3 f4
      simp only [List.drop_succ_cons, List.drop_zero]
      have HR := hid hR
      have r1 := HX.out.1.drew.below hR h1
      have q1 := r1.c4
      have h3 := r1.lt
      have HR1 := hid r1
      have r2 := hid (HX.out.2.1.drew.below hR h2)
      have hb2 : Hid (Below w.heap.size w x) := HX.out.2.2.trans ((Below.refl _ wr).drew.trans hR |>.mono (Nat.le_of_lt h2))
      clear hR r1 HC p1 p2 q1
      have q1 := HR1.out.c4
      go_wp2_with fail
      go_roundw
      case rel =>
        refine ⟨k + 1, t.ins s[k].toNat, by omega, by go_num, ?_, Cs.ins_wf htw _, (((HR1.out.set 0 _).set 1 _).set 2 _).set 3 _, (((r2.out.other (by omega) _ _).other (by omega) _ _).other (by omega) _ _).other (by omega) _ _, (((hb2.out.setCell (by simp) _).setCell (by simp) _).setCell (by simp) _).setCell (by simp) _⟩
        show _ = _
        rw [HT.out, ← ht.out]
      case measure => simp [intOf]; omega
    · obtain rfl : k = s.size := by omega
      go_wp2_with fail
      have et : Cs.of s.data.toList = t := by rw [ht.out, List.take_of_length_le (by simp)]
      rw [et]
      refine ret_row 2 25 rfl w.heap.size rfl [.int .u64 t.a, .int .u64 t.b, .int .u64 t.c, .int .u64 t.d] (CellsAt.of_row ((((HX.out.2.1.set 0 _).set 1 _).set 2 _).set 3 _)) _ Tryd.underlying25 rfl size_cs rfl ⟨rfl, (((HX.out.2.2.setCell (by simp) _).setCell (by simp) _).setCell (by simp) _).setCell (by simp) _⟩


end Go.Proofs.YthnpbopnpdlmnaaDoor

/- The numbers of nodes of a tree: what each call that counts them returns. -/
namespace Go.Proofs.YthnpbopnpdlmnaaDoor
open Go.RowKit

mutual
def Re.count (q : Int → Bool) : Re → Nat
  | .mk p xs => Re.counts q xs + if q p.op then 1 else 0
def Re.counts (q : Int → Bool) : List Re → Nat
  | [] => 0
  | t :: ts => t.count q + Re.counts q ts
end
def Re.size (t : Re) : Nat := t.count fun _ => true
def Re.sizes (l : List Re) : Nat := Re.counts (fun _ => true) l
def Re.groups (t : Re) : Nat := t.count (· == 6)
def Re.backs (t : Re) : Nat := t.count (· == 9)
theorem Re.size_mk (p : Pay) (xs : List Re) : (Re.mk p xs).size = Re.sizes xs + 1 := by simp [Re.size, Re.count, Re.sizes]
theorem Re.counts_take (q : Int → Bool) : ∀ (xs : List Re) (i : Nat) (a : Re), xs[i]? = some a → Re.counts q (xs.take (i + 1)) = Re.counts q (xs.take i) + a.count q
  | t :: ts, 0, a, h => by simp at h; subst h; simp [Re.counts]
  | t :: ts, i + 1, a, h => by
    have := Re.counts_take q ts i a (by simpa using h)
    simp [Re.counts, this]; omega
theorem Re.counts_take_le (q : Int → Bool) : ∀ (xs : List Re) (i : Nat), Re.counts q (xs.take i) ≤ Re.counts q xs
  | [], i => by simp
  | t :: ts, 0 => by simp [Re.counts]
  | t :: ts, i + 1 => by have := Re.counts_take_le q ts i; simp [Re.counts]; omega
mutual
theorem Re.count_le (q : Int → Bool) : ∀ t : Re, t.count q ≤ t.size
  | .mk p xs => by have := Re.counts_le q xs; rw [Re.size_mk, Re.count]; split <;> omega
theorem Re.counts_le (q : Int → Bool) : ∀ xs : List Re, Re.counts q xs ≤ Re.sizes xs
  | [] => by simp [Re.counts, Re.sizes]
  | t :: ts => by have h1 := Re.count_le q t; have h2 := Re.counts_le q ts; simp only [Re.sizes, Re.counts, Re.size] at *; omega
end
theorem Re.sizes_len : ∀ (xs : List Re), xs.length ≤ Re.sizes xs
  | [] => by simp
  | .mk p l :: ts => by have := Re.sizes_len ts; simp [Re.sizes, Re.counts, Re.count] at *; omega
theorem Re.size_get {xs : List Re} {i : Nat} {a : Re} (h : xs[i]? = some a) : a.size ≤ Re.sizes xs := by
  have h1 := Re.counts_take (fun _ => true) xs i a h
  have h2 := Re.counts_take_le (fun _ => true) xs (i + 1)
  simp only [Re.sizes, Re.size] at *; omega
theorem size_re : (Tryd.prog.info? 28).map (·.size) = some 9 := by kernel_rfl

theorem size_re9 (a b c d e f g h i : Value) : (Tryd.prog.info? 28).map (·.size) = some [a, b, c, d, e, f, g, h, i].length := size_re

theorem Re.AllIn.kid {wb wr : World} {xs : List Re} {ad : Option Addr} (h : Re.AllIn wb xs ad 0) (hb : Below wb.heap.size wb wr) (k : Nat) (hk : k < xs.length) :
    ∃ (b o : Nat) (p : Pay) (ad' : Option Addr) (n' cap' : Nat), ad = some ⟨b, o, none⟩ ∧ Hid (CellsAt wr b (o + k * 9) [.int .i64 p.op, .int .u64 p.set.a, .int .u64 p.set.b, .int .u64 p.set.c, .int .u64 p.set.d, .int .i64 p.lo, .int .i64 p.hi, .int .i64 p.gr, .slice ad' n' cap']) ∧
      Hid (Re.In wb xs[k] [.int .i64 p.op, .int .u64 p.set.a, .int .u64 p.set.b, .int .u64 p.set.c, .int .u64 p.set.d, .int .i64 p.lo, .int .i64 p.hi, .int .i64 p.gr, .slice ad' n' cap']) ∧ b < wb.heap.size := by
  obtain ⟨b, o, cs, h1, h2, h3⟩ := h.get k xs[k] (by simp [hk])
  have hn := h3.nine
  have hb2 : b < wb.heap.size := h2.block (by rintro rfl; simp at hn)
  cases hx : xs[k] with
  | mk p ys =>
    rw [hx, Re.In] at h3
    obtain ⟨ad', cap', rfl, h3⟩ := h3
    refine ⟨b, o, p, ad', ys.length, cap', h1, ?_, ?_, hb2⟩
    · have := h2.below hb
      show CellsAt _ _ _ _
      simpa [Pay.cells] using this
    · show Re.In _ _ _
      rw [Re.In]
      exact ⟨ad', cap', rfl, h3⟩

def hits (op o : Int) : Bool := op == 0 || o == op
def tick (op o : Int) : Nat := if hits op o then 1 else 0

set_option maxHeartbeats 400000 in
theorem count1_any (p : Pay) (sl : Value) (op n : Int) (Bo Bn : Nat) (w : World) (ho : Row w Bo [.int .i64 op] 3) (hn : Row w Bn [.int .i64 n] 3) (h0 : 0 ≤ n) (h1 : n ≤ 1048576) :
    Calls Tryd.prog 41 #[.agg #[.int .i64 p.op, .int .u64 p.set.a, .int .u64 p.set.b, .int .u64 p.set.c, .int .u64 p.set.d, .int .i64 p.lo, .int .i64 p.hi, .int .i64 p.gr, sl], .pointer (some ⟨Bo, 0, none⟩), .pointer (some ⟨Bn, 0, none⟩)] w fun e w' =>
      e = .returned (.tuple #[]) ∧ But [Bn] w w' ∧ Row w' Bn [.int .i64 (n + (tick op p.op : Nat))] 3 := by
  have o1 := ho.c1
  have o2 := hn.c1
  have o3 := ho.lt
  have o4 := hn.lt
  have HN := hid hn
  clear ho hn
  by_cases c0 : op = 0
  · obtain rfl := c0
    go_enter Tryd.func41, Tryd.ntmps41
    go_wp2
    go_end0
    exact ⟨rfl, ((But.refl _ _).setCell (by simp) _).alloc _, by simpa [tick, hits] using (HN.out.set 0 (.int .i64 (n + 1))).alloc _⟩
  · have d0 : (op == 0) = false := by simpa using c0
    have H0 := hid d0
    by_cases c1 : p.op = op
    · have d1 : (p.op == op) = true := by simpa using c1
      have H1 := hid d1
      clear c1 c0
      go_enter Tryd.func41, Tryd.ntmps41
      go_wp2
      go_end0
      exact ⟨rfl, ((But.refl _ _).setCell (by simp) _).alloc _, by simpa [tick, hits, H0.out, H1.out] using (HN.out.set 0 (.int .i64 (n + 1))).alloc _⟩
    · have d1 : (p.op == op) = false := by simpa using c1
      have H1 := hid d1
      clear c1 c0
      go_enter Tryd.func41, Tryd.ntmps41
      go_wp2
      go_end0
      exact ⟨rfl, (But.refl _ _).alloc _, by simpa [tick, hits, H0.out, H1.out] using HN.out.alloc _⟩

set_option maxHeartbeats 1000000 in
theorem walk_any (op : Int) (Bo Bn : Nat) (wb : World) (_hBo : wb.heap.size ≤ Bo) (hBn : wb.heap.size ≤ Bn) (hne : Bo ≠ Bn) (t : Re) : ∀ (w : World) (cs : List Value) (n : Nat), t.In wb cs → Below wb.heap.size wb w → Row w Bo [.int .i64 op] 3 → Row w Bn [.int .i64 n] 3 → n + t.size ≤ 1048576 →
    Calls Tryd.prog 40 #[.agg cs.toArray, .func (.func 41) #[] #[.pointer (some ⟨Bo, 0, none⟩), .pointer (some ⟨Bn, 0, none⟩)]] w fun e w' =>
      e = .returned (.tuple #[]) ∧ But [Bn] w w' ∧ Row w' Bn [.int .i64 (n + t.count (hits op) : Nat)] 3 := by
  induction t using Re.ind with
  | h p xs ih =>
    intro w cs n hIn hbw ho hn hsz
    rw [Re.In] at hIn
    obtain ⟨ad, cap, rfl, hwf, hlc, hcm, hnil, hall⟩ := hIn
    rw [Re.size_mk] at hsz
    have hlen := Re.sizes_len xs
    have hsw := hbw.size
    have HBW := hid hbw
    have HO := hid ho
    have HN := hid hn
    have HIH := hid ih
    have HAL := hid hall
    have HNE := hid hne
    clear ih hall hbw ho hn hne
    simp only [Pay.cells]
    go_enter Tryd.func40, Tryd.ntmps40
    go_wp2_with fail
    refine (count1_any p (.slice ad xs.length cap) op n Bo Bn _ (HO.out.alloc _) (HN.out.alloc _) (by omega) (by omega)).mono ?_
    rintro e w1 ⟨rfl, hb1, hr1⟩
    have hbox : Row w1 w.heap.size (p.cells (.slice ad xs.length cap)) 28 := (Row.new (w := w) (cs := p.cells (.slice ad xs.length cap)) rfl).but hb1 (by have := HN.out.lt; simp; omega)
    have q1 := hbox.c9
    have HB1 := hid hb1
    have HR1 := hid hr1
    have HBX := hid hbox
    have hs1 := hb1.size
    clear hb1 hr1 hbox
    have hbw1 : Hid (Below wb.heap.size wb w1) := HBW.out.trans (((Below.refl _ w).alloc (Nat.le_refl _) _).mono hsw |>.trans (HB1.out.below (by simp; omega) (by simp; omega)))
    have hbut1 : Hid (But [Bn] w w1) := ((But.refl _ w).alloc _).trans HB1.out
    have ho1 : Hid (Row w1 Bo [.int .i64 op] 3) := (HO.out.alloc _).but HB1.out (by simpa using HNE.out)
    have hwl := HN.out.lt
    clear HB1 HO HN HBW
    go_wp2_with fail
    go_loopw [12] (fun i wr => ∃ k : Nat, k ≤ xs.length ∧ i = .int .i64 k ∧ Hid (Row wr Bn [.int .i64 ((n + Re.counts (hits op) (xs.take k) + tick op p.op : Nat) : Int)] 3 ∧ But [Bn] w wr ∧ Row wr Bo [.int .i64 op] 3 ∧ Below wb.heap.size wb wr)) (fun i _ => xs.length - (intOf i).toNat)
    case atStart => exact ⟨0, by omega, rfl, by simpa [Re.counts] using HR1.out, hbut1.out, ho1.out, hbw1.out⟩
    case round =>
      obtain ⟨k, hk, rfl, HX⟩ := hrel
      by_cases hlt : k < xs.length
      · obtain ⟨b, o, p', ad', n', cap', rfl, HC, HI0, hbb⟩ := HAL.out.kid HX.out.2.2.2 k hlt
        have hct := Re.counts_take (hits op) xs k xs[k] (by simp [hlt])
        have hcl := Re.counts_le (hits op) xs
        have hc1 := Re.counts_take_le (hits op) xs (k + 1)
        have hsz1 := Re.size_get (xs := xs) (i := k) (a := xs[k]) (by simp [hlt])
        have hst := Re.counts_take (fun _ => true) xs k xs[k] (by simp [hlt])
        have hst1 := Re.counts_take_le (fun _ => true) xs (k + 1)
        have hcl2 := Re.counts_le (hits op) (xs.take k)
        simp only [Re.sizes, Re.size] at *
        have hcall := HIH.out xs[k] (by simp) (wr.alloc (.cells #[.int .i64 p'.op, .int .u64 p'.set.a, .int .u64 p'.set.b, .int .u64 p'.set.c, .int .u64 p'.set.d, .int .i64 p'.lo, .int .i64 p'.hi, .int .i64 p'.gr, .slice ad' n' cap'] 28)) _ (n + Re.counts (hits op) (xs.take k) + tick op p.op) HI0.out (HX.out.2.2.2.alloc (Nat.le_trans hsw (by have := HX.out.2.1.size; omega)) _) (HX.out.2.2.1.alloc _) (HX.out.1.alloc _) (by unfold tick; split <;> omega)
        have HCA := hid hcall
        have hct' := hid hct
        have hwr := HX.out.2.1.size
        clear hcall hct hc1 hcl hsz1 hst hst1 hcl2
        go_wp2_with (first | (with_reducible (refine wpList_load_agg rfl 28 _ rfl b (o + (k * 9)) rfl _ _ HC.out Tryd.underlying28 rfl (size_re9 _ _ _ _ _ _ _ _ _) ?_)))
        refine HCA.out.mono ?_
        rintro e w2 ⟨rfl, hb2, hr2⟩
        have HB2 := hid hb2
        have HR2 := hid hr2
        clear hb2 hr2 HCA
        go_wp2_with fail
        go_roundw
        case rel =>
          refine ⟨k + 1, by omega, by go_num, ?_, (HX.out.2.1.alloc _).trans HB2.out, (HX.out.2.2.1.alloc _).but HB2.out (by simpa using HNE.out), ?_⟩
          · have := HR2.out
            rw [hct'.out]
            rwa [show n + (Re.counts (hits op) (List.take k xs) + xs[k].count (hits op)) + tick op p.op = n + Re.counts (hits op) (List.take k xs) + tick op p.op + xs[k].count (hits op) by omega]
          · exact HX.out.2.2.2.trans (((Below.refl _ wr).alloc (Nat.le_refl _) _).mono (by omega) |>.trans (HB2.out.below (by simp; omega) (by simp; omega)))
        case measure => simp [intOf]; omega
      · obtain rfl : k = xs.length := by omega
        go_wp2
        go_end0
        refine ⟨rfl, HX.out.2.1, ?_⟩
        have := HX.out.1
        simpa [Re.count, Nat.add_assoc, tick] using this

theorem nat_of_hits (op : Int) (hop : op ≠ 0) (t : Re) : t.count (hits op) = t.count (· == op) := by
  have e : hits op = (· == op) := by funext o; unfold hits; simp [hop]
  rw [e]

theorem count_any (op : Int) (t : Re) (w : World) (cs : List Value) (hIn : t.In w cs) (hsz : t.size ≤ 1048576) :
    Calls Tryd.prog 29 #[.agg cs.toArray, .int .i64 op] w fun e w' => e = .returned (.int .i64 (t.count (hits op) : Nat)) ∧ Below w.heap.size w w' := by
  cases t with
  | mk p xs =>
    have hIn' := hIn
    rw [Re.In] at hIn
    obtain ⟨ad, cap, rfl, _⟩ := hIn
    simp only [Pay.cells]
    have HI := hid hIn'
    clear hIn'
    go_enter Tryd.func29, Tryd.ntmps29
    go_wp2_with fail
    refine (walk_any op (w.heap.size + 1) (w.heap.size + 2) w (by omega) (by omega) (by omega) (.mk p xs) _ _ 0 HI.out ?_ ?_ ?_ (by omega)).mono ?_
    · exact (((Below.refl _ w).alloc (Nat.le_refl _) _).alloc (by simp) _).alloc (by simp; omega) _
    · exact (Row.new (cs := [_]) (by simp)).alloc _
    · exact Row.new (cs := [_]) (by simp)
    rintro e w1 ⟨rfl, hb, hr⟩
    have q := hr.c1
    have HB := hid hb
    clear hr hb
    go_wp2_with fail
    go_ret
    refine ⟨ret_int (by simp), ?_⟩
    exact ((((Below.refl _ w).alloc (Nat.le_refl _) _).alloc (by simp) _).alloc (by simp; omega) _).trans (HB.out.below (by simp; omega) (by simp))

theorem Groups_any (t : Re) (w : World) (cs : List Value) (hIn : t.In w cs) (hsz : t.size ≤ 1048576) :
    Calls Tryd.prog 36 #[.agg cs.toArray] w fun e w' => e = .returned (.int .i64 (Re.groups t : Nat)) ∧ Below w.heap.size w w' := by
  cases t with
  | mk p xs =>
    have hIn' := hIn
    rw [Re.In] at hIn
    obtain ⟨ad, cap, rfl, _⟩ := hIn
    simp only [Pay.cells]
    have HI := hid hIn'
    clear hIn'
    go_enter Tryd.func36, Tryd.ntmps36
    go_wp2_with fail
    refine (count_any _ (.mk p xs) _ _ (HI.out.below ((Below.refl _ w).alloc (Nat.le_refl _) _)) hsz).mono ?_
    rintro e w1 ⟨rfl, hb⟩
    have HB := hid hb
    clear hb
    go_wp2_with fail
    all_goals go_ret
    all_goals refine ⟨ret_int (by rw [nat_of_hits 6 (by decide)]; rfl), ((Below.refl _ w).alloc (Nat.le_refl _) _).trans (HB.out.mono (by simp))⟩
theorem Back_any (t : Re) (w : World) (cs : List Value) (hIn : t.In w cs) (hsz : t.size ≤ 1048576) :
    Calls Tryd.prog 17 #[.agg cs.toArray] w fun e w' => e = .returned (.bool (decide (0 < Re.backs t))) ∧ Below w.heap.size w w' := by
  cases t with
  | mk p xs =>
    have hIn' := hIn
    rw [Re.In] at hIn
    obtain ⟨ad, cap, rfl, _⟩ := hIn
    simp only [Pay.cells]
    have HI := hid hIn'
    clear hIn'
    go_enter Tryd.func17, Tryd.ntmps17
    go_wp2_with fail
    refine (count_any _ (.mk p xs) _ _ (HI.out.below ((Below.refl _ w).alloc (Nat.le_refl _) _)) hsz).mono ?_
    rintro e w1 ⟨rfl, hb⟩
    have HB := hid hb
    clear hb
    go_wp2_with fail
    all_goals go_ret
    all_goals refine ⟨ret_bool (by rw [nat_of_hits 9 (by decide)]; exact decide_eq_decide.2 (by unfold Re.backs; omega)), ((Below.refl _ w).alloc (Nat.le_refl _) _).trans (HB.out.mono (by simp))⟩
end Go.Proofs.YthnpbopnpdlmnaaDoor

/- Append to a slice of the call's own: what is owned behind it, and where it may lie. Nothing here speaks of the program. -/
namespace Go.Proofs.YthnpbopnpdlmnaaDoor
open Go.RowKit

theorem ownsRow_base {w : World} {b b' : Nat} {e : TypeId} {size : Nat} {v : Value} {n : Nat} {xs : List Value} (h : w.ownsRow b e size v n xs) (hb : b' ≤ b) : w.ownsRow b' e size v n xs := by
  obtain ⟨h1, h2⟩ := h
  refine ⟨h1, ?_⟩
  rcases h2 with h2 | ⟨g, cap, cur, hv, hg, hr⟩
  · exact .inl h2
  · exact .inr ⟨g, cap, cur, hv, Nat.le_trans hb hg, hr⟩
theorem ownsRow_shape {w : World} {b : Nat} {e : TypeId} {size : Nat} {v : Value} {n : Nat} {xs : List Value} (h : w.ownsRow b e size v n xs) : ∃ a c, v = .slice a n c := by
  rcases h.2 with ⟨rfl, rfl⟩ | ⟨g, cap, cur, rfl, _⟩
  · exact ⟨_, _, rfl⟩
  · exact ⟨_, _, rfl⟩

theorem wpList_append_row {P : Program} {ops : Array Oper} {rest : List Oper} {o : Oper} {a : Act} {w : World} {Q : Exit → Act → World → Prop} (hgd : o.guard = none) (s x : Operand) (t : TypeId)
    (ho : o.op = .call { callee := .builtin .append, args := #[s, x], argTypes := #[t, t] })
    (base : Nat) (e : TypeId) (i : TypeInfo) (z : Value) (size bytes : Nat) (ht : P.underlying t = some (.slice e)) (hi : P.info? e = some i) (hz : i.zero = some z)
    (hsize : i.size = size) (hby : i.bytes = bytes) (hzs : z.cells.size = size) (hsz : 0 < size)
    (v : Value) (n : Nat) (xs : List Value) (hs : a.eval s = v) (hown : w.ownsRow base e size v n xs)
    (ad : Addr) (m c : Nat) (news : List Value) (hx : a.eval x = .slice (some ad) m c) (hl : news.length = m * size) (hnews : ∀ j u, news[j]? = some u → w.cell? (ad.add j) = some u) (h1 : ∀ u ∈ news, u.oneCell' = true)
    (h63 : n + m ≤ maxLen) (hbytes : (n + m) * bytes ≤ 140737488355328) (hbase : base ≤ w.heap.size) (hm : 0 < m)
    (h : ∀ a' c' w', w'.ownsRow base e size (.slice a' (n + m) c') (n + m) (xs ++ news) → w.grownBy w' v.ownBlock → (∀ g, (Value.slice a' (n + m) c').ownBlock = some g → v.ownBlock = some g ∨ w.heap.size ≤ g) →
      wpList P ops Q rest (a.put o.dst (.slice a' (n + m) c')) w') : wpList P ops Q (o :: rest) a w := by
  have grows : ∀ (ao : Option Addr) (cap : Nat), a.eval s = .slice ao n cap → (ao = none → n = 0 ∧ cap = 0) → (∀ b, ao = some b → ∀ j u, xs[j]? = some u → w.cell? (b.add j) = some u) → cap < n + m → wpList P ops Q (o :: rest) a w := by
    intro ao cap hs' hnone hold hfull
    refine wpList_append_grows w hgd s x t ho e i z size bytes ht hi hz hsize hby hzs hsz ao n cap xs hs' hnone hown.1 hold ad m c news hx hl hnews h1 hfull h63 hbytes fun v' w' ho' hg' => ?_
    obtain ⟨a', c', rfl⟩ := ownsRow_shape ho'
    refine h a' c' w' (ownsRow_base ho' hbase) ⟨hg'.os, hg'.tape, hg'.output, hg'.size, fun k hk _ => hg'.block k hk (by simp)⟩ fun g hg => .inr ?_
    exact (World.ownsRow.lt ho' g hg).1
  have hown0 := hown
  obtain ⟨hlen, hv⟩ := hown
  rcases hv with ⟨rfl, rfl⟩ | ⟨g, cap, cur, rfl, hg, hcur, hnc, hcm, hsz2, hxs⟩
  · exact grows none 0 hs (fun _ => ⟨rfl, rfl⟩) (fun b hb => by cases hb) (by omega)
  · by_cases hfit : n + m ≤ cap
    · exact wpList_append_fits w hgd s x t ho base e i size ht hi hsize g n cap xs hs hown0 ad m c news hx hl hnews h1 hfit fun w' h2 h3 => h _ _ w' h2 h3 fun k hk => .inl hk
    · exact grows (some ⟨g, 0, none⟩) cap hs (fun hb => by cases hb) (fun b hb j u hj => by cases hb; exact World.ownsRow.cells hown0 rfl j u hj) (by omega)
end Go.Proofs.YthnpbopnpdlmnaaDoor
