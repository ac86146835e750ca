/- The functions on sets of bytes: what each call returns. -/
import Derived.Test.YtkinnfejgpnddaaDoorProg
import Derived.Test.YtkinnfejgpnddaaDoorK01
import Derived.RegionTactic
import Derived.BigQuiet
import Derived.BigRegion
import Derived.Deep.QuietTactic
namespace Go.Proofs.YtkinnfejgpnddaaDoor
open Go.RowKit
attribute [local go_sem] gives givesUpon

def Cs.word (s : Cs) (q : Nat) : Nat := match q with | 0 => s.a | 1 => s.b | 2 => s.c | _ => s.d
def Cs.has (s : Cs) (c : Nat) : Bool := (s.word (c / 64)).testBit (c % 64)
def Cs.union (s t : Cs) : Cs := ⟨s.a ||| t.a, s.b ||| t.b, s.c ||| t.c, s.d ||| t.d⟩
def Cs.ins (s : Cs) (c : Nat) : Cs :=
  match c / 64 with
  | 0 => { s with a := s.a ||| 2 ^ (c % 64) }
  | 1 => { s with b := s.b ||| 2 ^ (c % 64) }
  | 2 => { s with c := s.c ||| 2 ^ (c % 64) }
  | _ => { s with d := s.d ||| 2 ^ (c % 64) }

theorem or_lt64 {a b : Nat} (ha : W64 a) (hb : W64 b) : W64 (a ||| b) := Nat.or_lt_two_pow (n := 64) ha hb
theorem pow_lt64 {r : Nat} (h : r < 64) : W64 (2 ^ r) := Nat.pow_lt_pow_right (by decide) h
theorem Cs.ins_wf {s : Cs} (hs : s.wf) (c : Nat) : (s.ins c).wf := by
  have hr : W64 (2 ^ (c % 64)) := pow_lt64 (Nat.mod_lt _ (by decide))
  unfold Cs.ins
  split
  · exact ⟨or_lt64 hs.a hr, hs.b, hs.c, hs.d⟩
  · exact ⟨hs.a, or_lt64 hs.b hr, hs.c, hs.d⟩
  · exact ⟨hs.a, hs.b, or_lt64 hs.c hr, hs.d⟩
  · exact ⟨hs.a, hs.b, hs.c, or_lt64 hs.d hr⟩

theorem has_bit (x r : Nat) (hx : W64 x) : (bits .and .u64 ((x : Int) / 2 ^ r) 1 == 1) = x.testBit r := by
  have e : ((x : Int) / 2 ^ r) = ((x / 2 ^ r : Nat) : Int) := by simp
  rw [e]
  have h1 : x / 2 ^ r < 18446744073709551616 := Nat.lt_of_le_of_lt (Nat.div_le_self _ _) hx
  have h2 := bits_and_u64_nat (x / 2 ^ r) 1 h1 (by decide)
  simp only [Int.natCast_one] at h2
  rw [h2, Nat.and_one_is_mod, Nat.testBit_eq_decide_div_mod_eq]
  by_cases h : x / 2 ^ r % 2 = 1
  · simp [h]
  · have : x / 2 ^ r % 2 = 0 := by omega
    simp [this]

/-- The bits below r, and those from r on. -/
theorem add_bit {x r : Nat} (h : x.testBit r = false) : x + 2 ^ r = x ||| 2 ^ r := by
  apply Nat.eq_of_testBit_eq
  intro j
  rw [Nat.testBit_or, Nat.testBit_two_pow]
  by_cases hj : r = j
  · subst hj; simp [h]; rw [Nat.add_comm, Nat.testBit_two_pow_add_eq, h]; rfl
  · rcases Nat.lt_or_gt_of_ne hj with hlt | hgt
    · have e : x + 2 ^ r = 2 ^ r * (x / 2 ^ r + 1) + x % 2 ^ r := by
        have := Nat.div_add_mod x (2 ^ r)
        rw [Nat.mul_add, Nat.mul_one]; omega
      have e2 : x = 2 ^ r * (x / 2 ^ r) + x % 2 ^ r := (Nat.div_add_mod x (2 ^ r)).symm
      have hm : x % 2 ^ r < 2 ^ r := Nat.mod_lt _ (Nat.two_pow_pos r)
      have h0 : (x / 2 ^ r) % 2 = 0 := by
        have := Nat.testBit_eq_decide_div_mod_eq (x := x) (i := r)
        rw [h] at this
        have h1 : ¬ x / 2 ^ r % 2 = 1 := by simpa using this.symm
        omega
      rw [e, Nat.testBit_two_pow_mul_add _ hm, if_neg (by omega)]
      conv => rhs; rw [e2, Nat.testBit_two_pow_mul_add _ hm, if_neg (by omega)]
      have hd : decide (r = j) = false := by simp; omega
      rw [hd, Bool.or_false]
      obtain ⟨d, hd⟩ : ∃ d, j - r = d + 1 := ⟨j - r - 1, by omega⟩
      rw [hd, Nat.testBit_succ, Nat.testBit_succ]
      congr 1
      omega
    · rw [Nat.add_comm, Nat.testBit_two_pow_add_gt (by omega)]
      simp; omega

set_option maxHeartbeats 400000 in
theorem Has_any (s : Cs) (c : Nat) (w : World) (hs : s.wf) (hc : c < 256) :
    Calls Tryd.prog 48 #[.agg #[.int .u64 s.a, .int .u64 s.b, .int .u64 s.c, .int .u64 s.d], .int .u8 c] w fun e w' => e = .returned (.bool (s.has c)) ∧ Below w.heap.size w w' := by
  have h1 : ((c : Int) / 64 = 0 ∨ (c : Int) / 64 = 1 ∨ (c : Int) / 64 = 2 ∨ (c : Int) / 64 = 3) := by omega
  have h0 : (0 : Int) ≤ c ∧ (c : Int) < 256 := by omega
  have h2 : 0 ≤ (c : Int) % 64 ∧ (c : Int) % 64 < 64 := by omega
  rcases h1 with h | h | h | h
  all_goals
    go_enter Tryd.func48, Tryd.ntmps48
    go_wp2
    go_ret
    refine ⟨congrArg (fun b => Ending.returned (.bool b)) ((has_bit _ _ ?_).trans ?_), (Below.refl _ _).alloc (Nat.le_refl _) _⟩
    · first | exact hs.a | exact hs.b | exact hs.c | exact hs.d
    · unfold Cs.has Cs.word
      first | (rw [show c / 64 = 0 by omega]; done) | (rw [show c / 64 = 0 by omega]; rfl) | (rw [show c / 64 = 1 by omega]; rfl) | (rw [show c / 64 = 2 by omega]; rfl) | (rw [show c / 64 = 3 by omega]; rfl)

theorem word_ins {x r : Nat} (hx : W64 x) (hr : r < 64) (h : x.testBit r = false) : IntKind.u64.wrap ((x : Int) + IntKind.u64.wrap (2 ^ r)) = ((x ||| 2 ^ r : Nat) : Int) := by
  have h1 := pow_lt64 hr
  have h2 := or_lt64 hx h1
  have h3 := add_bit h
  unfold W64 at *
  rw [IntKind.wrap_u64, IntKind.wrap_u64]
  have e : ((2 : Int) ^ r) = ((2 ^ r : Nat) : Int) := by simp
  rw [e, ← h3]
  omega

theorem size_cs : (Tryd.prog.info? 25).map (·.size) = some 4 := by kernel_rfl
theorem Cs.ins_same {s : Cs} {c : Nat} (h : s.has c = true) : s.ins c = s := by
  unfold Cs.has Cs.word at h
  unfold Cs.ins
  have key : ∀ x : Nat, x.testBit (c % 64) = true → x ||| 2 ^ (c % 64) = x := by
    intro x hx
    apply Nat.eq_of_testBit_eq
    intro j
    rw [Nat.testBit_or, Nat.testBit_two_pow]
    by_cases hj : c % 64 = j
    · subst hj; simp [hx]
    · simp [hj]
  split at h <;> rename_i he <;> (try rw [he]) <;> simp [key _ h]

theorem Cs.ins0 {s : Cs} {c : Nat} (h : c / 64 = 0) : s.ins c = ⟨s.a ||| 2 ^ (c % 64), s.b, s.c, s.d⟩ := by unfold Cs.ins; rw [h]; rfl
theorem Cs.ins1 {s : Cs} {c : Nat} (h : c / 64 = 1) : s.ins c = ⟨s.a, s.b ||| 2 ^ (c % 64), s.c, s.d⟩ := by unfold Cs.ins; rw [h]; rfl
theorem Cs.ins2 {s : Cs} {c : Nat} (h : c / 64 = 2) : s.ins c = ⟨s.a, s.b, s.c ||| 2 ^ (c % 64), s.d⟩ := by unfold Cs.ins; rw [h]; rfl
theorem Cs.ins3 {s : Cs} {c : Nat} (h : c / 64 = 3) : s.ins c = ⟨s.a, s.b, s.c, s.d ||| 2 ^ (c % 64)⟩ := by unfold Cs.ins; rw [h]; rfl

set_option maxHeartbeats 1000000 in
theorem With_any (s : Cs) (c : Nat) (w : World) (hs : s.wf) (hc : c < 256) :
    Calls Tryd.prog 59 #[.agg #[.int .u64 s.a, .int .u64 s.b, .int .u64 s.c, .int .u64 s.d], .int .u8 c] w fun e w' =>
      e = .returned (.agg #[.int .u64 (s.ins c).a, .int .u64 (s.ins c).b, .int .u64 (s.ins c).c, .int .u64 (s.ins c).d]) ∧ Below w.heap.size w w' := by
  have h1 : ((c : Int) / 64 = 0 ∨ (c : Int) / 64 = 1 ∨ (c : Int) / 64 = 2 ∨ (c : Int) / 64 = 3) := by omega
  have h0 : (0 : Int) ≤ c ∧ (c : Int) < 256 := by omega
  have h2 : 0 ≤ (c : Int) % 64 ∧ (c : Int) % 64 < 64 := by omega
  have HB : Hid (∀ w, Calls Tryd.prog 48 #[.agg #[.int .u64 s.a, .int .u64 s.b, .int .u64 s.c, .int .u64 s.d], .int .u8 c] w fun e w' => e = .returned (.bool (s.has c)) ∧ Below w.heap.size w w') := fun w => Has_any s c w hs hc
  by_cases hh : s.has c = true
  · rw [hh] at HB
    go_enter Tryd.func59, Tryd.ntmps59
    go_wp2_with fail
    refine (HB.out _).mono ?_
    rintro e w1 ⟨rfl, hb⟩
    have hr1 := ((Row.at w s.cells 25).alloc (.cells #[.int .u64 0, .int .u64 0, .int .u64 0, .int .u64 0] 25)).below hb (by simp; omega)
    have hr2 := (Row.at (w.alloc (.cells s.cells.toArray 25)) [.int .u64 0, .int .u64 0, .int .u64 0, .int .u64 0] 25).below hb (by simp [Cs.cells])
    simp only [Cs.cells] at hr1 hr2
    obtain ⟨p1, q1⟩ := hr1.c4
    obtain ⟨p2, q2⟩ := hr2.c4
    have hsz := hb.size
    have hsz2 : w.heap.size + 1 < w1.heap.size := by simp at hsz; omega
    simp at p2 q2
    have HC : Hid (Below w.heap.size w w1) := ((Below.refl _ w).alloc (Nat.le_refl _) _ |>.alloc (by simp) _).trans (hb.mono (by simp; omega))
    clear HB hsz hr1 hr2 hb
    have H0 := hid hh
    clear hh
    go_wp2_with fail
    refine ret_row 4 25 rfl (w.heap.size + 1) rfl [.int .u64 (s.ins c).a, .int .u64 (s.ins c).b, .int .u64 (s.ins c).c, .int .u64 (s.ins c).d] (CellsAt.of4 ?_ ?_ ?_ ?_) _ Tryd.underlying25 rfl size_cs rfl ⟨rfl, ?_⟩
    any_goals (rw [Cs.ins_same H0.out]; go_simp; done)
    exact (((HC.out.setCell (by simp) _).setCell (by simp) _).setCell (by simp) _).setCell (by simp) _
  have hh' : s.has c = false := by simpa using hh
  rw [hh'] at HB
  rcases h1 with h | h | h | h
  all_goals
    have hi : (s.word (c / 64)).testBit (c % 64) = false := hh'
    first | rw [show c / 64 = 0 by omega] at hi | rw [show c / 64 = 1 by omega] at hi | rw [show c / 64 = 2 by omega] at hi | rw [show c / 64 = 3 by omega] at hi
    have H0 := hid hi
    first | have HS := hid (Cs.ins0 (s := s) (c := c) (by omega)) | have HS := hid (Cs.ins1 (s := s) (c := c) (by omega)) | have HS := hid (Cs.ins2 (s := s) (c := c) (by omega)) | have HS := hid (Cs.ins3 (s := s) (c := c) (by omega))
    clear hh hh' hi
    go_enter Tryd.func59, Tryd.ntmps59
    go_wp2_with fail
    refine (HB.out _).mono ?_
    rintro e w1 ⟨rfl, hb⟩
    have hr1 := ((Row.at w s.cells 25).alloc (.cells #[.int .u64 0, .int .u64 0, .int .u64 0, .int .u64 0] 25)).below hb (by simp; omega)
    have hr2 := (Row.at (w.alloc (.cells s.cells.toArray 25)) [.int .u64 0, .int .u64 0, .int .u64 0, .int .u64 0] 25).below hb (by simp [Cs.cells])
    simp only [Cs.cells] at hr1 hr2
    obtain ⟨p1, q1⟩ := hr1.c4
    obtain ⟨p2, q2⟩ := hr2.c4
    have hsz := hb.size
    have hsz2 : w.heap.size + 1 < w1.heap.size := by simp at hsz; omega
    simp at p2 q2
    have HC : Hid (Below w.heap.size w w1) := ((Below.refl _ w).alloc (Nat.le_refl _) _ |>.alloc (by simp) _).trans (hb.mono (by simp; omega))
    clear HB hsz hr1 hr2 hb
    go_wp2_with fail
    rw [HS.out]
    refine ret_row 4 25 rfl (w.heap.size + 1) rfl _ (CellsAt.of4 ?_ ?_ ?_ ?_) _ Tryd.underlying25 rfl size_cs rfl ⟨rfl, ?_⟩
    any_goals (go_simp; done)
    any_goals exact ((((HC.out.setCell (by simp) _).setCell (by simp) _).setCell (by simp) _).setCell (by simp) _).setCell (by simp) _
    all_goals
      go_simp
      first | exact word_ins hs.a (Nat.mod_lt _ (by decide)) H0.out | exact word_ins hs.b (Nat.mod_lt _ (by decide)) H0.out | exact word_ins hs.c (Nat.mod_lt _ (by decide)) H0.out | exact word_ins hs.d (Nat.mod_lt _ (by decide)) H0.out


def Cs.of (l : List UInt8) : Cs := l.foldl (fun s c => s.ins c.toNat) Cs.none
theorem Cs.foldl_wf (l : List UInt8) : ∀ s : Cs, s.wf → (l.foldl (fun s c => s.ins c.toNat) s).wf := by
  induction l with
  | nil => intro s h; exact h
  | cons c l ih => intro s h; exact ih _ (Cs.ins_wf h _)
theorem Cs.of_wf (l : List UInt8) : (Cs.of l).wf := Cs.foldl_wf l _ Cs.none_wf
theorem Cs.of_snoc (s : ByteArray) (k : Nat) (h : k < s.size) : Cs.of (s.data.toList.take (k + 1)) = (Cs.of (s.data.toList.take k)).ins s[k].toNat := by
  rw [List.take_succ_eq_append_getElem (by simpa using h)]
  simp [Cs.of, List.foldl_append]
  rfl

set_option maxHeartbeats 1000000 in
theorem Of_any (s : ByteArray) (w : World) (hl : s.size ≤ 1048576) :
    Calls Tryd.prog 42 #[.string s] w fun e w' => e = .returned (.agg #[.int .u64 (Cs.of s.data.toList).a, .int .u64 (Cs.of s.data.toList).b, .int .u64 (Cs.of s.data.toList).c, .int .u64 (Cs.of s.data.toList).d]) ∧ Below w.heap.size w w' := by
  go_enter Tryd.func42, Tryd.ntmps42
  go_wp2
  go_loopw [4] (fun i wr => ∃ (k : Nat) (t : Cs), k ≤ s.size ∧ i = .int .i64 k ∧ Hid (t = Cs.of (s.data.toList.take k)) ∧ t.wf ∧ Hid (Row wr (w.heap.size + 1) [.int .u64 t.a, .int .u64 t.b, .int .u64 t.c, .int .u64 t.d] 25 ∧ Row wr w.heap.size [.int .u64 0, .int .u64 0, .int .u64 0, .int .u64 0] 25 ∧ Below w.heap.size w wr)) (fun i _ => s.size - (intOf i).toNat)
  case atStart => exact ⟨0, Cs.none, by omega, rfl, rfl, Cs.none_wf, Row.new (cs := [.int .u64 0, .int .u64 0, .int .u64 0, .int .u64 0]) (by simp), (Row.new (cs := [.int .u64 0, .int .u64 0, .int .u64 0, .int .u64 0]) rfl).alloc _, ((Below.refl _ w).alloc (Nat.le_refl _) _).alloc (by simp) _⟩
  case round =>
    obtain ⟨k, t, hk, rfl, ht, htw, HX⟩ := hrel
    have p1 := HX.out.1.c4
    have p2 := HX.out.2.1.c4
    have h1 := HX.out.1.lt
    have h2 := HX.out.2.1.lt
    by_cases hlt : k < s.size
    · have hc := s[k].toNat_lt
      have HW := hid (With_any t s[k].toNat)
      have HT := hid (Cs.of_snoc s k hlt)
      have HC : Hid (∀ x, Below wr.heap.size wr.drew x → (x.cell? ⟨w.heap.size + 1, 0, none⟩ = some (.int .u64 t.a) ∧ x.cell? ⟨w.heap.size + 1, 1, none⟩ = some (.int .u64 t.b) ∧ x.cell? ⟨w.heap.size + 1, 2, none⟩ = some (.int .u64 t.c) ∧ x.cell? ⟨w.heap.size + 1, 3, none⟩ = some (.int .u64 t.d))) := fun x hx => (HX.out.1.drew.below hx h1).c4.1
      go_wp2_with fail
      refine wp_region_inv 5 (Below wr.heap.size) (by kernel_rfl) (by kernel_rfl) (Below.refl _) (fun _ _ _ => Below.trans) ?_
      simp only [fill, dstOf, Act.put, List.take_succ_cons, List.take_zero, List.getElem?_toArray, List.getElem?_cons_zero, List.getElem?_cons_succ, Option.bind_some, List.setIfInBounds_toArray, List.set_cons_zero, List.set_cons_succ]
      refine Plan.det 1 rfl (Below.refl _) ?_
      apply Exists.intro
      refine ⟨fun vs x hR hF K hK => ?_, ?_⟩
      · have hc := HC.out x hR; clear hF
        go_simp
        exact hK _ _ (Below.refl _ _) rfl
      refine Plan.det 2 rfl (Below.refl _) ?_
      apply Exists.intro
      refine ⟨fun vs x hR hF K hK => ?_, ?_⟩
      · clear hF
        go_simp
        exact hK _ _ (Below.refl _ _) rfl
      refine Plan.det 3 rfl (Below.refl _) ?_
      apply Exists.intro
      refine ⟨fun vs x hR hF K hK => ?_, ?_⟩
      · clear hF
        go_simp
        exact hK _ _ (Below.refl _ _) rfl
      refine Plan.det 4 rfl (Below.refl _) ?_
      apply Exists.intro
      refine ⟨fun vs x hR hF K hK => ?_, ?_⟩
      · have f1 := hF 1 _ _ rfl rfl; have f2 := hF 0 _ _ rfl rfl; clear hF
        go_simp
        exact hK _ _ (Below.refl _ _) rfl
      refine Plan.det 5 rfl (Below.refl _) ?_
      apply Exists.intro
      refine ⟨fun vs x hR hF K hK => ?_, ?_⟩
      · have f0 := hF 3 _ _ rfl rfl; have f3 := hF 0 _ _ rfl rfl; clear hF
        go_simp
        refine (HW.out _ htw hc).mono ?_
        rintro e x1 ⟨rfl, hbe⟩
        exact ⟨_, rfl, hK _ _ (hbe.mono hR.size) rfl⟩
      refine Plan.nil (fun vs x hR hF => ?_)
      have f0 := hF 4 _ _ rfl; have f1 := hF 3 _ _ rfl; have f2 := hF 2 _ _ rfl; have f3 := hF 1 _ _ rfl; have f4 := hF 0 _ _ rfl
      clear hF
      simp only [f0, f1, f2, f3, f4]
      clear f0 f1 f2 f3 f4
      simp only [List.drop_succ_cons, List.drop_zero]
      have HR := hid hR
      have r1 := HX.out.1.drew.below hR h1
      have q1 := r1.c4
      have h3 := r1.lt
      have HR1 := hid r1
      have r2 := hid (HX.out.2.1.drew.below hR h2)
      have hb2 : Hid (Below w.heap.size w x) := HX.out.2.2.trans ((Below.refl _ wr).drew.trans hR |>.mono (Nat.le_of_lt h2))
      clear hR r1 HC p1 p2 q1
      have q1 := HR1.out.c4
      go_wp2_with fail
      go_roundw
      case rel =>
        refine ⟨k + 1, t.ins s[k].toNat, by omega, by go_num, ?_, Cs.ins_wf htw _, (((HR1.out.set 0 _).set 1 _).set 2 _).set 3 _, (((r2.out.other (by omega) _ _).other (by omega) _ _).other (by omega) _ _).other (by omega) _ _, (((hb2.out.setCell (by simp) _).setCell (by simp) _).setCell (by simp) _).setCell (by simp) _⟩
        show _ = _
        rw [HT.out, ← ht.out]
      case measure => simp [intOf]; omega
    · obtain rfl : k = s.size := by omega
      go_wp2_with fail
      have et : Cs.of s.data.toList = t := by rw [ht.out, List.take_of_length_le (by simp)]
      rw [et]
      refine ret_row 2 25 rfl w.heap.size rfl [.int .u64 t.a, .int .u64 t.b, .int .u64 t.c, .int .u64 t.d] (CellsAt.of_row ((((HX.out.2.1.set 0 _).set 1 _).set 2 _).set 3 _)) _ Tryd.underlying25 rfl size_cs rfl ⟨rfl, (((HX.out.2.2.setCell (by simp) _).setCell (by simp) _).setCell (by simp) _).setCell (by simp) _⟩


/-- What lies in memory while two sets are combined. -/
def Cmb (w : World) (s u t : Cs) (wr : World) : Prop := Row wr w.heap.size [.int .u64 s.a, .int .u64 s.b, .int .u64 s.c, .int .u64 s.d] 25 ∧ Row wr (w.heap.size + 1) [.int .u64 u.a, .int .u64 u.b, .int .u64 u.c, .int .u64 u.d] 25 ∧
      Row wr (w.heap.size + 2) [.int .u64 0, .int .u64 0, .int .u64 0, .int .u64 0] 25 ∧ Row wr (w.heap.size + 3) [.int .u64 t.a, .int .u64 t.b, .int .u64 t.c, .int .u64 t.d] 25 ∧ Below w.heap.size w wr
theorem Cmb.below {w : World} {s u t : Cs} {wr x : World} (h : Cmb w s u t wr) (hb : Below wr.heap.size wr x) : Cmb w s u t x := by
  obtain ⟨h1, h2, h3, h4, h5⟩ := h
  exact ⟨h1.below hb h1.lt, h2.below hb h2.lt, h3.below hb h3.lt, h4.below hb h4.lt, h5.trans (hb.mono (Nat.le_of_lt h1.lt))⟩
theorem Cmb.put {w : World} {s u t : Cs} {wr : World} (h : Cmb w s u t wr) (t' : Cs) : Cmb w s u t' ((((wr.setCell ⟨w.heap.size + 3, 0, none⟩ (.int .u64 t'.a)).setCell ⟨w.heap.size + 3, 1, none⟩ (.int .u64 t'.b)).setCell ⟨w.heap.size + 3, 2, none⟩ (.int .u64 t'.c)).setCell ⟨w.heap.size + 3, 3, none⟩ (.int .u64 t'.d)) := by
  obtain ⟨h1, h2, h3, h4, h5⟩ := h
  exact ⟨h1.other4 (by omega) _ _ _ _, h2.other4 (by omega) _ _ _ _, h3.other4 (by omega) _ _ _ _, h4.set4 _ _ _ _, below4 h5 (by omega) _ _ _ _⟩



def Cs.part (s u : Cs) : Nat → Cs
  | 0 => s
  | 1 => ⟨s.a ||| u.a, s.b, s.c, s.d⟩
  | 2 => ⟨s.a ||| u.a, s.b ||| u.b, s.c, s.d⟩
  | 3 => ⟨s.a ||| u.a, s.b ||| u.b, s.c ||| u.c, s.d⟩
  | _ => s.union u


end Go.Proofs.YtkinnfejgpnddaaDoor

/- The list of a set's bytes. -/
namespace Go.Proofs.YtkinnfejgpnddaaDoor
open Go.RowKit

def Cs.nums (s : Cs) (k : Nat) : List Int := ((List.range k).filter s.has).map Int.ofNat
/-- The bytes of a set, in ascending order. -/
def Cs.str (s : Cs) : ByteArray := strOfNums (s.nums 256)

end Go.Proofs.YtkinnfejgpnddaaDoor

/- The numbers of nodes of a tree: what each call that counts them returns. -/
namespace Go.Proofs.YtkinnfejgpnddaaDoor
open Go.RowKit

mutual
/-- The number of nodes whose operator fits. -/
def Re.count (q : Int → Bool) : Re → Nat
  | .mk p xs => Re.counts q xs + if q p.op then 1 else 0
def Re.counts (q : Int → Bool) : List Re → Nat
  | [] => 0
  | t :: ts => t.count q + Re.counts q ts
end
def Re.size (t : Re) : Nat := t.count fun _ => true
def Re.sizes (l : List Re) : Nat := Re.counts (fun _ => true) l
def Re.groups (t : Re) : Nat := t.count (· == 6)
theorem Re.size_mk (p : Pay) (xs : List Re) : (Re.mk p xs).size = Re.sizes xs + 1 := by simp [Re.size, Re.count, Re.sizes]
theorem Re.counts_take (q : Int → Bool) : ∀ (xs : List Re) (i : Nat) (a : Re), xs[i]? = some a → Re.counts q (xs.take (i + 1)) = Re.counts q (xs.take i) + a.count q
  | t :: ts, 0, a, h => by simp at h; subst h; simp [Re.counts]
  | t :: ts, i + 1, a, h => by
    have := Re.counts_take q ts i a (by simpa using h)
    simp [Re.counts, this]; omega
theorem Re.counts_take_le (q : Int → Bool) : ∀ (xs : List Re) (i : Nat), Re.counts q (xs.take i) ≤ Re.counts q xs
  | [], i => by simp
  | t :: ts, 0 => by simp [Re.counts]
  | t :: ts, i + 1 => by have := Re.counts_take_le q ts i; simp [Re.counts]; omega
mutual
theorem Re.count_le (q : Int → Bool) : ∀ t : Re, t.count q ≤ t.size
  | .mk p xs => by have := Re.counts_le q xs; rw [Re.size_mk, Re.count]; split <;> omega
theorem Re.counts_le (q : Int → Bool) : ∀ xs : List Re, Re.counts q xs ≤ Re.sizes xs
  | [] => by simp [Re.counts, Re.sizes]
  | t :: ts => by have h1 := Re.count_le q t; have h2 := Re.counts_le q ts; simp only [Re.sizes, Re.counts, Re.size] at *; omega
end
theorem Re.sizes_len : ∀ (xs : List Re), xs.length ≤ Re.sizes xs
  | [] => by simp
  | .mk p l :: ts => by have := Re.sizes_len ts; simp [Re.sizes, Re.counts, Re.count] at *; omega
theorem Re.size_get {xs : List Re} {i : Nat} {a : Re} (h : xs[i]? = some a) : a.size ≤ Re.sizes xs := by
  have h1 := Re.counts_take (fun _ => true) xs i a h
  have h2 := Re.counts_take_le (fun _ => true) xs (i + 1)
  simp only [Re.sizes, Re.size] at *; omega
theorem size_re : (Tryd.prog.info? 28).map (·.size) = some 9 := by kernel_rfl

theorem size_re9 (a b c d e f g h i : Value) : (Tryd.prog.info? 28).map (·.size) = some [a, b, c, d, e, f, g, h, i].length := size_re

/-- A child, wherever the world has gone on. -/
theorem Re.AllIn.kid {wb wr : World} {xs : List Re} {ad : Option Addr} (h : Re.AllIn wb xs ad 0) (hb : Below wb.heap.size wb wr) (k : Nat) (hk : k < xs.length) :
    ∃ (b o : Nat) (p : Pay) (ad' : Option Addr) (n' cap' : Nat), ad = some ⟨b, o, none⟩ ∧ Hid (CellsAt wr b (o + k * 9) [.int .i64 p.op, .int .u64 p.set.a, .int .u64 p.set.b, .int .u64 p.set.c, .int .u64 p.set.d, .int .i64 p.lo, .int .i64 p.hi, .int .i64 p.gr, .slice ad' n' cap']) ∧
      Hid (Re.In wb xs[k] [.int .i64 p.op, .int .u64 p.set.a, .int .u64 p.set.b, .int .u64 p.set.c, .int .u64 p.set.d, .int .i64 p.lo, .int .i64 p.hi, .int .i64 p.gr, .slice ad' n' cap']) ∧ b < wb.heap.size := by
  obtain ⟨b, o, cs, h1, h2, h3⟩ := h.get k xs[k] (by simp [hk])
  have hn := h3.nine
  have hb2 : b < wb.heap.size := h2.block (by rintro rfl; simp at hn)
  cases hx : xs[k] with
  | mk p ys =>
    rw [hx, Re.In] at h3
    obtain ⟨ad', cap', rfl, h3⟩ := h3
    refine ⟨b, o, p, ad', ys.length, cap', h1, ?_, ?_, hb2⟩
    · have := h2.below hb
      show CellsAt _ _ _ _
      simpa [Pay.cells] using this
    · show Re.In _ _ _
      rw [Re.In]
      exact ⟨ad', cap', rfl, h3⟩

/-- Does an operator count? -/
def hits (op o : Int) : Bool := op == 0 || o == op
def tick (op o : Int) : Nat := if hits op o then 1 else 0

set_option maxHeartbeats 400000 in
theorem count1_any (p : Pay) (sl : Value) (op n : Int) (Bo Bn : Nat) (w : World) (ho : Row w Bo [.int .i64 op] 3) (hn : Row w Bn [.int .i64 n] 3) (h0 : 0 ≤ n) (h1 : n ≤ 1048576) :
    Calls Tryd.prog 74 #[.agg #[.int .i64 p.op, .int .u64 p.set.a, .int .u64 p.set.b, .int .u64 p.set.c, .int .u64 p.set.d, .int .i64 p.lo, .int .i64 p.hi, .int .i64 p.gr, sl], .pointer (some ⟨Bo, 0, none⟩), .pointer (some ⟨Bn, 0, none⟩)] w fun e w' =>
      e = .returned (.tuple #[]) ∧ But [Bn] w w' ∧ Row w' Bn [.int .i64 (n + (tick op p.op : Nat))] 3 := by
  have o1 := ho.c1
  have o2 := hn.c1
  have o3 := ho.lt
  have o4 := hn.lt
  have HN := hid hn
  clear ho hn
  by_cases c0 : op = 0
  · obtain rfl := c0
    go_enter Tryd.func74, Tryd.ntmps74
    go_wp2
    go_end0
    exact ⟨rfl, ((But.refl _ _).setCell (by simp) _).alloc _, by simpa [tick, hits] using (HN.out.set 0 (.int .i64 (n + 1))).alloc _⟩
  · have d0 : (op == 0) = false := by simpa using c0
    have H0 := hid d0
    by_cases c1 : p.op = op
    · have d1 : (p.op == op) = true := by simpa using c1
      have H1 := hid d1
      clear c1 c0
      go_enter Tryd.func74, Tryd.ntmps74
      go_wp2
      go_end0
      exact ⟨rfl, ((But.refl _ _).setCell (by simp) _).alloc _, by simpa [tick, hits, H0.out, H1.out] using (HN.out.set 0 (.int .i64 (n + 1))).alloc _⟩
    · have d1 : (p.op == op) = false := by simpa using c1
      have H1 := hid d1
      clear c1 c0
      go_enter Tryd.func74, Tryd.ntmps74
      go_wp2
      go_end0
      exact ⟨rfl, (But.refl _ _).alloc _, by simpa [tick, hits, H0.out, H1.out] using HN.out.alloc _⟩

set_option maxHeartbeats 1000000 in
theorem walk_any (op : Int) (Bo Bn : Nat) (wb : World) (_hBo : wb.heap.size ≤ Bo) (hBn : wb.heap.size ≤ Bn) (hne : Bo ≠ Bn) (t : Re) : ∀ (w : World) (cs : List Value) (n : Nat), t.In wb cs → Below wb.heap.size wb w → Row w Bo [.int .i64 op] 3 → Row w Bn [.int .i64 n] 3 → n + t.size ≤ 1048576 →
    Calls Tryd.prog 73 #[.agg cs.toArray, .func (.func 74) #[] #[.pointer (some ⟨Bo, 0, none⟩), .pointer (some ⟨Bn, 0, none⟩)]] w fun e w' =>
      e = .returned (.tuple #[]) ∧ But [Bn] w w' ∧ Row w' Bn [.int .i64 (n + t.count (hits op) : Nat)] 3 := by
  induction t using Re.ind with
  | h p xs ih =>
    intro w cs n hIn hbw ho hn hsz
    rw [Re.In] at hIn
    obtain ⟨ad, cap, rfl, hwf, hlc, hcm, hnil, hall⟩ := hIn
    rw [Re.size_mk] at hsz
    have hlen := Re.sizes_len xs
    have hsw := hbw.size
    have HBW := hid hbw
    have HO := hid ho
    have HN := hid hn
    have HIH := hid ih
    have HAL := hid hall
    have HNE := hid hne
    clear ih hall hbw ho hn hne
    simp only [Pay.cells]
    go_enter Tryd.func73, Tryd.ntmps73
    go_wp2_with fail
    refine (count1_any p (.slice ad xs.length cap) op n Bo Bn _ (HO.out.alloc _) (HN.out.alloc _) (by omega) (by omega)).mono ?_
    rintro e w1 ⟨rfl, hb1, hr1⟩
    have hbox : Row w1 w.heap.size (p.cells (.slice ad xs.length cap)) 28 := (Row.new (w := w) (cs := p.cells (.slice ad xs.length cap)) rfl).but hb1 (by have := HN.out.lt; simp; omega)
    have q1 := hbox.c9
    have HB1 := hid hb1
    have HR1 := hid hr1
    have HBX := hid hbox
    have hs1 := hb1.size
    clear hb1 hr1 hbox
    have hbw1 : Hid (Below wb.heap.size wb w1) := HBW.out.trans (((Below.refl _ w).alloc (Nat.le_refl _) _).mono hsw |>.trans (HB1.out.below (by simp; omega) (by simp; omega)))
    have hbut1 : Hid (But [Bn] w w1) := ((But.refl _ w).alloc _).trans HB1.out
    have ho1 : Hid (Row w1 Bo [.int .i64 op] 3) := (HO.out.alloc _).but HB1.out (by simpa using HNE.out)
    have hwl := HN.out.lt
    clear HB1 HO HN HBW
    go_wp2_with fail
    go_loopw [12] (fun i wr => ∃ k : Nat, k ≤ xs.length ∧ i = .int .i64 k ∧ Hid (Row wr Bn [.int .i64 ((n + Re.counts (hits op) (xs.take k) + tick op p.op : Nat) : Int)] 3 ∧ But [Bn] w wr ∧ Row wr Bo [.int .i64 op] 3 ∧ Below wb.heap.size wb wr)) (fun i _ => xs.length - (intOf i).toNat)
    case atStart => exact ⟨0, by omega, rfl, by simpa [Re.counts] using HR1.out, hbut1.out, ho1.out, hbw1.out⟩
    case round =>
      obtain ⟨k, hk, rfl, HX⟩ := hrel
      by_cases hlt : k < xs.length
      · obtain ⟨b, o, p', ad', n', cap', rfl, HC, HI0, hbb⟩ := HAL.out.kid HX.out.2.2.2 k hlt
        have hct := Re.counts_take (hits op) xs k xs[k] (by simp [hlt])
        have hcl := Re.counts_le (hits op) xs
        have hc1 := Re.counts_take_le (hits op) xs (k + 1)
        have hsz1 := Re.size_get (xs := xs) (i := k) (a := xs[k]) (by simp [hlt])
        have hst := Re.counts_take (fun _ => true) xs k xs[k] (by simp [hlt])
        have hst1 := Re.counts_take_le (fun _ => true) xs (k + 1)
        have hcl2 := Re.counts_le (hits op) (xs.take k)
        simp only [Re.sizes, Re.size] at *
        have hcall := HIH.out xs[k] (by simp) (wr.alloc (.cells #[.int .i64 p'.op, .int .u64 p'.set.a, .int .u64 p'.set.b, .int .u64 p'.set.c, .int .u64 p'.set.d, .int .i64 p'.lo, .int .i64 p'.hi, .int .i64 p'.gr, .slice ad' n' cap'] 28)) _ (n + Re.counts (hits op) (xs.take k) + tick op p.op) HI0.out (HX.out.2.2.2.alloc (Nat.le_trans hsw (by have := HX.out.2.1.size; omega)) _) (HX.out.2.2.1.alloc _) (HX.out.1.alloc _) (by unfold tick; split <;> omega)
        have HCA := hid hcall
        have hct' := hid hct
        have hwr := HX.out.2.1.size
        clear hcall hct hc1 hcl hsz1 hst hst1 hcl2
        go_wp2_with (first | (with_reducible (refine wpList_load_agg rfl 28 _ rfl b (o + (k * 9)) rfl _ _ HC.out Tryd.underlying28 rfl (size_re9 _ _ _ _ _ _ _ _ _) ?_)))
        refine HCA.out.mono ?_
        rintro e w2 ⟨rfl, hb2, hr2⟩
        have HB2 := hid hb2
        have HR2 := hid hr2
        clear hb2 hr2 HCA
        go_wp2_with fail
        go_roundw
        case rel =>
          refine ⟨k + 1, by omega, by go_num, ?_, (HX.out.2.1.alloc _).trans HB2.out, (HX.out.2.2.1.alloc _).but HB2.out (by simpa using HNE.out), ?_⟩
          · have := HR2.out
            rw [hct'.out]
            rwa [show n + (Re.counts (hits op) (List.take k xs) + xs[k].count (hits op)) + tick op p.op = n + Re.counts (hits op) (List.take k xs) + tick op p.op + xs[k].count (hits op) by omega]
          · exact HX.out.2.2.2.trans (((Below.refl _ wr).alloc (Nat.le_refl _) _).mono (by omega) |>.trans (HB2.out.below (by simp; omega) (by simp; omega)))
        case measure => simp [intOf]; omega
      · obtain rfl : k = xs.length := by omega
        go_wp2
        go_end0
        refine ⟨rfl, HX.out.2.1, ?_⟩
        have := HX.out.1
        simpa [Re.count, Nat.add_assoc, tick] using this

theorem nat_of_hits (op : Int) (hop : op ≠ 0) (t : Re) : t.count (hits op) = t.count (· == op) := by
  have e : hits op = (· == op) := by funext o; unfold hits; simp [hop]
  rw [e]

theorem count_any (op : Int) (t : Re) (w : World) (cs : List Value) (hIn : t.In w cs) (hsz : t.size ≤ 1048576) :
    Calls Tryd.prog 61 #[.agg cs.toArray, .int .i64 op] w fun e w' => e = .returned (.int .i64 (t.count (hits op) : Nat)) ∧ Below w.heap.size w w' := by
  cases t with
  | mk p xs =>
    have hIn' := hIn
    rw [Re.In] at hIn
    obtain ⟨ad, cap, rfl, _⟩ := hIn
    simp only [Pay.cells]
    have HI := hid hIn'
    clear hIn'
    go_enter Tryd.func61, Tryd.ntmps61
    go_wp2_with fail
    refine (walk_any op (w.heap.size + 1) (w.heap.size + 2) w (by omega) (by omega) (by omega) (.mk p xs) _ _ 0 HI.out ?_ ?_ ?_ (by omega)).mono ?_
    · exact (((Below.refl _ w).alloc (Nat.le_refl _) _).alloc (by simp) _).alloc (by simp; omega) _
    · exact (Row.new (cs := [_]) (by simp)).alloc _
    · exact Row.new (cs := [_]) (by simp)
    rintro e w1 ⟨rfl, hb, hr⟩
    have q := hr.c1
    have HB := hid hb
    clear hr hb
    go_wp2_with fail
    go_ret
    refine ⟨ret_int (by simp), ?_⟩
    exact ((((Below.refl _ w).alloc (Nat.le_refl _) _).alloc (by simp) _).alloc (by simp; omega) _).trans (HB.out.below (by simp; omega) (by simp))

theorem Groups_any (t : Re) (w : World) (cs : List Value) (hIn : t.In w cs) (hsz : t.size ≤ 1048576) :
    Calls Tryd.prog 45 #[.agg cs.toArray] w fun e w' => e = .returned (.int .i64 (Re.groups t : Nat)) ∧ Below w.heap.size w w' := by
  cases t with
  | mk p xs =>
    have hIn' := hIn
    rw [Re.In] at hIn
    obtain ⟨ad, cap, rfl, _⟩ := hIn
    simp only [Pay.cells]
    have HI := hid hIn'
    clear hIn'
    go_enter Tryd.func45, Tryd.ntmps45
    go_wp2_with fail
    refine (count_any _ (.mk p xs) _ _ (HI.out.below ((Below.refl _ w).alloc (Nat.le_refl _) _)) hsz).mono ?_
    rintro e w1 ⟨rfl, hb⟩
    have HB := hid hb
    clear hb
    go_wp2_with fail
    all_goals go_ret
    all_goals refine ⟨ret_int (by rw [nat_of_hits 6 (by decide)]; rfl), ((Below.refl _ w).alloc (Nat.le_refl _) _).trans (HB.out.mono (by simp))⟩
end Go.Proofs.YtkinnfejgpnddaaDoor

/- The small functions on lengths: what each call returns. -/
namespace Go.Proofs.YtkinnfejgpnddaaDoor
open Go.RowKit

/-- A length: -1 (no bound), or a number up to 2^31 - 1. -/
def Len (a : Int) : Prop := -1 ≤ a ∧ a ≤ 2147483647

def lsum (a b : Int) : Int := if a < 0 ∨ b < 0 then -1 else min 2147483647 (a + b)
def ltimes (a n : Int) : Int := if a = 0 ∨ n = 0 then 0 else if a < 0 ∨ n < 0 then -1 else min 2147483647 (a * n)

theorem Len.lsum {a b : Int} (ha : Len a) (hb : Len b) : Len (lsum a b) := by
  unfold Len at *; unfold Proofs.YtkinnfejgpnddaaDoor.lsum; split <;> omega
theorem Len.ltimes {a n : Int} (ha : Len a) : Len (ltimes a n) := by
  unfold Len at *; unfold Proofs.YtkinnfejgpnddaaDoor.ltimes
  split
  · omega
  split
  · omega
  · have : 0 ≤ a * n := Int.mul_nonneg (by omega) (by omega)
    omega




end Go.Proofs.YtkinnfejgpnddaaDoor

/- What is known of a tree: nullable, lengths, first bytes. The program's cat and alt of two such facts. -/
namespace Go.Proofs.YtkinnfejgpnddaaDoor
open Go.RowKit
attribute [local go_sem] gives givesUpon


def Grow (x y : World) : Prop := Below x.heap.size x y
theorem Grow.refl (x : World) : Grow x x := Below.refl _ x
theorem Grow.trans {x y z : World} (h : Grow x y) (k : Grow y z) : Grow x z := Below.trans h (k.mono h.size)
theorem Grow.alloc (x : World) (o : Obj) : Grow x (x.alloc o) := (Below.refl _ x).alloc (Nat.le_refl _) _
theorem Grow.size {x y : World} (h : Grow x y) : x.heap.size ≤ y.heap.size := Below.size h

structure Facts where
  null : Bool
  least : Int
  most : Int
  first : Cs
deriving DecidableEq
structure Facts.wf (f : Facts) : Prop where
  least : Len f.least
  most : Len f.most
  first : f.first.wf
def Facts.cells (f : Facts) : List Value := [.bool f.null, .int .i64 f.least, .int .i64 f.most, .int .u64 f.first.a, .int .u64 f.first.b, .int .u64 f.first.c, .int .u64 f.first.d]
def Facts.cat (a b : Facts) : Facts := ⟨a.null && b.null, lsum a.least b.least, lsum a.most b.most, if a.null then a.first.union b.first else a.first⟩
def Facts.alt (a b : Facts) : Facts := ⟨a.null || b.null, min a.least b.least, if a.most < 0 ∨ b.most < 0 then -1 else max a.most b.most, a.first.union b.first⟩

end Go.Proofs.YtkinnfejgpnddaaDoor

/- Append to a slice of the call's own: what is owned behind it, and where it may lie. Nothing here speaks of the program. -/
namespace Go.Proofs.YtkinnfejgpnddaaDoor
open Go.RowKit

theorem ownsRow_base {w : World} {b b' : Nat} {e : TypeId} {size : Nat} {v : Value} {n : Nat} {xs : List Value} (h : w.ownsRow b e size v n xs) (hb : b' ≤ b) : w.ownsRow b' e size v n xs := by
  obtain ⟨h1, h2⟩ := h
  refine ⟨h1, ?_⟩
  rcases h2 with h2 | ⟨g, cap, cur, hv, hg, hr⟩
  · exact .inl h2
  · exact .inr ⟨g, cap, cur, hv, Nat.le_trans hb hg, hr⟩
theorem ownsRow_shape {w : World} {b : Nat} {e : TypeId} {size : Nat} {v : Value} {n : Nat} {xs : List Value} (h : w.ownsRow b e size v n xs) : ∃ a c, v = .slice a n c := by
  rcases h.2 with ⟨rfl, rfl⟩ | ⟨g, cap, cur, rfl, _⟩
  · exact ⟨_, _, rfl⟩
  · exact ⟨_, _, rfl⟩

theorem wpList_append_row {P : Program} {ops : Array Oper} {rest : List Oper} {o : Oper} {a : Act} {w : World} {Q : Exit → Act → World → Prop} (hgd : o.guard = none) (s x : Operand) (t : TypeId)
    (ho : o.op = .call { callee := .builtin .append, args := #[s, x], argTypes := #[t, t] })
    (base : Nat) (e : TypeId) (i : TypeInfo) (z : Value) (size bytes : Nat) (ht : P.underlying t = some (.slice e)) (hi : P.info? e = some i) (hz : i.zero = some z)
    (hsize : i.size = size) (hby : i.bytes = bytes) (hzs : z.cells.size = size) (hsz : 0 < size)
    (v : Value) (n : Nat) (xs : List Value) (hs : a.eval s = v) (hown : w.ownsRow base e size v n xs)
    (ad : Addr) (m c : Nat) (news : List Value) (hx : a.eval x = .slice (some ad) m c) (hl : news.length = m * size) (hnews : ∀ j u, news[j]? = some u → w.cell? (ad.add j) = some u) (h1 : ∀ u ∈ news, u.oneCell' = true)
    (h63 : n + m ≤ maxLen) (hbytes : (n + m) * bytes ≤ 140737488355328) (hbase : base ≤ w.heap.size) (hm : 0 < m)
    (h : ∀ a' c' w', w'.ownsRow base e size (.slice a' (n + m) c') (n + m) (xs ++ news) → w.grownBy w' v.ownBlock → (∀ g, (Value.slice a' (n + m) c').ownBlock = some g → v.ownBlock = some g ∨ w.heap.size ≤ g) →
      wpList P ops Q rest (a.put o.dst (.slice a' (n + m) c')) w') : wpList P ops Q (o :: rest) a w := by
  have grows : ∀ (ao : Option Addr) (cap : Nat), a.eval s = .slice ao n cap → (ao = none → n = 0 ∧ cap = 0) → (∀ b, ao = some b → ∀ j u, xs[j]? = some u → w.cell? (b.add j) = some u) → cap < n + m → wpList P ops Q (o :: rest) a w := by
    intro ao cap hs' hnone hold hfull
    refine wpList_append_grows w hgd s x t ho e i z size bytes ht hi hz hsize hby hzs hsz ao n cap xs hs' hnone hown.1 hold ad m c news hx hl hnews h1 hfull h63 hbytes fun v' w' ho' hg' => ?_
    obtain ⟨a', c', rfl⟩ := ownsRow_shape ho'
    refine h a' c' w' (ownsRow_base ho' hbase) ⟨hg'.os, hg'.tape, hg'.output, hg'.size, fun k hk _ => hg'.block k hk (by simp)⟩ fun g hg => .inr ?_
    exact (World.ownsRow.lt ho' g hg).1
  have hown0 := hown
  obtain ⟨hlen, hv⟩ := hown
  rcases hv with ⟨rfl, rfl⟩ | ⟨g, cap, cur, rfl, hg, hcur, hnc, hcm, hsz2, hxs⟩
  · exact grows none 0 hs (fun _ => ⟨rfl, rfl⟩) (fun b hb => by cases hb) (by omega)
  · by_cases hfit : n + m ≤ cap
    · exact wpList_append_fits w hgd s x t ho base e i size ht hi hsize g n cap xs hs hown0 ad m c news hx hl hnews h1 hfit fun w' h2 h3 => h _ _ w' h2 h3 fun k hk => .inl hk
    · exact grows (some ⟨g, 0, none⟩) cap hs (fun hb => by cases hb) (fun b hb j u hj => by cases hb; exact World.ownsRow.cells hown0 rfl j u hj) (by omega)
end Go.Proofs.YtkinnfejgpnddaaDoor

/- Spans and trees as the layers of matching use them, in memory; what several layers share. -/
namespace Go.Proofs.YtkinnfejgpnddaaDoor
open Go.RowKit
attribute [local go_sem] gives givesUpon

/-- The spans of the groups. -/
abbrev Spans := List (Int × Int)
mutual
/-- The groups within a tree. -/
def withinOf : Re → List Nat
  | .mk p xs => (if p.op = 6 then [p.gr.toNat] else []) ++ withinAll xs
def withinAll : List Re → List Nat
  | [] => []
  | x :: xs => withinOf x ++ withinAll xs
end
def unset (sp : Spans) (gs : List Nat) : Spans := gs.foldl (fun l g => l.set (g - 1) (-1, -1)) sp
def byteAt (s : List UInt8) (k : Nat) : UInt8 := s.getD k 0
theorem Row.typed {w : World} {B : Nat} {cs ds : List Value} {T U : TypeId} (h : Row w B cs T) (k : Row w B ds U) : T = U := by
  have e := Option.some.inj (h.symm.trans k)
  injection e
/-- The cells of spans. -/
def spc : Spans → List Value
  | [] => []
  | x :: l => .int .i64 x.1 :: .int .i64 x.2 :: spc l
theorem spc_length : ∀ l : Spans, (spc l).length = l.length * 2
  | [] => rfl
  | x :: l => by simp [spc, spc_length l]; omega
theorem spc_get : ∀ (l : Spans) (k : Nat) (x : Int × Int), l[k]? = some x → (spc l)[2 * k]? = some (.int .i64 x.1) ∧ (spc l)[2 * k + 1]? = some (.int .i64 x.2)
  | y :: l, 0, x, h => by simp at h; subst h; exact ⟨rfl, rfl⟩
  | y :: l, k + 1, x, h => by
    have := spc_get l k x (by simpa using h)
    simpa [spc, show 2 * (k + 1) = 2 * k + 2 by omega] using this
theorem spc_append : ∀ l m : Spans, spc (l ++ m) = spc l ++ spc m
  | [], m => rfl
  | x :: l, m => by simp [spc, spc_append l m]
theorem spc_set : ∀ (l : Spans) (k : Nat) (x : Int × Int), spc (l.set k x) = ((spc l).set (2 * k) (.int .i64 x.1)).set (2 * k + 1) (.int .i64 x.2)
  | [], k, x => rfl
  | y :: l, 0, x => rfl
  | y :: l, k + 1, x => by simp [spc, spc_set l k x, show 2 * (k + 1) = 2 * k + 2 by omega, show 2 * k + 2 + 1 = (2 * k + 1) + 2 by omega]
/-- The spans lie at a slice's place, in a block of which p holds. -/
def SpB (p : Nat → Prop) (w : World) (v : Value) (sp : Spans) : Prop :=
  (sp = [] ∧ v = .slice none 0 0) ∨ (sp ≠ [] ∧ ∃ (b c : Nat) (more : List Value), v = .slice (some ⟨b, 0, none⟩) sp.length c ∧ p b ∧ Row w b (spc sp ++ more) 46)
abbrev SpAt (S : List Nat) := SpB (· ∉ S)
theorem SpB.but {p : Nat → Prop} {S : List Nat} {w w' : World} {v : Value} {sp : Spans} (h : SpB p w v sp) (hf : But S w w') (hp : ∀ b, p b → b ∉ S) : SpB p w' v sp := by
  rcases h with h | ⟨h0, b, c, m, h1, h2, h3⟩
  · exact .inl h
  · exact .inr ⟨h0, b, c, m, h1, h2, h3.but hf (hp b h2)⟩
theorem SpAt.but {S : List Nat} {w w' : World} {v : Value} {sp : Spans} (h : SpAt S w v sp) (hf : But S w w') : SpAt S w' v sp := SpB.but h hf fun _ h => h
theorem SpB.below {p : Nat → Prop} {w w' : World} {v : Value} {sp : Spans} (h : SpB p w v sp) (hf : Below w.heap.size w w') : SpB p w' v sp := by
  rcases h with h | ⟨h0, b, c, m, h1, h2, h3⟩
  · exact .inl h
  · exact .inr ⟨h0, b, c, m, h1, h2, h3.below hf h3.lt⟩
theorem SpB.mono {p q : Nat → Prop} {w : World} {v : Value} {sp : Spans} (h : SpB p w v sp) (hp : ∀ b, b < w.heap.size → p b → q b) : SpB q w v sp := by
  rcases h with h | ⟨h0, b, c, m, h1, h2, h3⟩
  · exact .inl h
  · exact .inr ⟨h0, b, c, m, h1, hp b h3.lt h2, h3⟩
theorem SpB.form {p : Nat → Prop} {w : World} {v : Value} {sp : Spans} (h : SpB p w v sp) : ∃ a c, v = .slice a sp.length c := by
  rcases h with ⟨rfl, rfl⟩ | ⟨h0, b, c, m, rfl, h2, h3⟩
  · exact ⟨_, _, rfl⟩
  · exact ⟨_, _, rfl⟩
mutual
/-- A tree as Check lets it pass: N groups in all. -/
def Re.ok (N : Nat) : Re → Prop
  | .mk p xs => ((1 ≤ p.op ∧ p.op ≤ 9) ∧ Re.sizes xs ≤ 1000000) ∧ (p.op = 3 ∨ p.op = 4 → xs ≠ []) ∧ (p.op = 5 ∨ p.op = 6 → ∃ x, xs = [x]) ∧ (p.op = 6 ∨ p.op = 9 → 1 ≤ p.gr ∧ p.gr ≤ N) ∧ Re.oks N xs
def Re.oks (N : Nat) : List Re → Prop
  | [] => True
  | t :: ts => t.ok N ∧ Re.oks N ts
end
/-- Spans that may be looked at: N of them, each within the string, or unset. -/
def SpOk (N L : Nat) (sp : Spans) : Prop := sp.length = N ∧ ∀ x, x ∈ sp → x = (-1, -1) ∨ 0 ≤ x.1 ∧ x.1 ≤ x.2 ∧ x.2 ≤ L
set_option maxHeartbeats 400000 in
theorem PHas_any (s : Cs) (c : Nat) (w : World) (hs : s.wf) (hc : c < 256) :
    Calls Tryd.prog 63 #[.agg #[.int .u64 s.a, .int .u64 s.b, .int .u64 s.c, .int .u64 s.d], .int .u8 c] w fun e w' => e = .returned (.bool (s.has c)) ∧ Below w.heap.size w w' := by
  have h1 : ((c : Int) / 64 = 0 ∨ (c : Int) / 64 = 1 ∨ (c : Int) / 64 = 2 ∨ (c : Int) / 64 = 3) := by omega
  have h0 : (0 : Int) ≤ c ∧ (c : Int) < 256 := by omega
  have h2 : 0 ≤ (c : Int) % 64 ∧ (c : Int) % 64 < 64 := by omega
  rcases h1 with h | h | h | h
  all_goals
    go_enter Tryd.func63, Tryd.ntmps63
    go_wp2
    go_ret
    refine ⟨congrArg (fun b => Ending.returned (.bool b)) ((has_bit _ _ ?_).trans ?_), (Below.refl _ _).alloc (Nat.le_refl _) _⟩
    · first | exact hs.a | exact hs.b | exact hs.c | exact hs.d
    · unfold Cs.has Cs.word
      first | (rw [show c / 64 = 0 by omega]; done) | (rw [show c / 64 = 0 by omega]; rfl) | (rw [show c / 64 = 1 by omega]; rfl) | (rw [show c / 64 = 2 by omega]; rfl) | (rw [show c / 64 = 3 by omega]; rfl)
theorem grow_below {w x : World} (hx : Grow w.drew x) : Below w.heap.size w x := ⟨hx.os, hx.tape, hx.output, hx.size, hx.block⟩
theorem Row.grow {w x : World} {B : Nat} {cs : List Value} {T : TypeId} (h : Row w B cs T) (hx : Grow w.drew x) : Row x B cs T := h.below (grow_below hx) h.lt
theorem byteAt_eq {s : ByteArray} {i : Nat} (hi : i < s.size) : byteAt s.data.toList i = s[i] := by
  have h : i < s.data.toList.length := by rw [Array.length_toList]; exact hi
  unfold byteAt
  rw [List.getD_eq_getElem?_getD, List.getElem?_eq_getElem h]
  rfl
theorem info_span : (Tryd.prog.info? 46).map (fun i => (i.zero, i.size, i.bytes)) = some (some (.agg #[.int .i64 0, .int .i64 0]), 2, 16) := by kernel_rfl
theorem spc_one : ∀ (l : Spans) (u : Value), u ∈ spc l → u.oneCell' = true
  | x :: l, u, h => by
    simp only [spc, List.mem_cons] at h
    rcases h with rfl | rfl | h
    · rfl
    · rfl
    · exact spc_one l u h
/-- A list of spans that the call itself owns. -/
theorem SpB.own {w : World} {base : Nat} {a : Option Addr} {c n : Nat} {sp : Spans} (h : w.ownsRow base 46 2 (.slice a n c) n (spc sp)) (hn : n = sp.length) (h0 : sp ≠ []) : SpB (base ≤ ·) w (.slice a n c) sp := by
  subst hn
  rcases h.2 with ⟨e1, e2⟩ | ⟨g, cap, cur, hv, hg, hcur, hnc, hcm, hsz, hxs⟩
  · exact absurd (List.eq_nil_of_length_eq_zero (by simpa using e2)) h0
  · refine .inr ⟨h0, g, cap, cur.toList.drop (sp.length * 2), hv, hg, ?_⟩
    have e : spc sp ++ cur.toList.drop (sp.length * 2) = cur.toList := by
      rw [← hxs]
      exact List.take_append_drop _ _
    unfold Row
    rw [e]
    exact hcur
theorem Row.span {w : World} {b g : Nat} {sp : Spans} {more : List Value} {T : TypeId} (h : Row w b (spc sp ++ more) T) (hg : g < sp.length) (x : Int × Int) :
    Row ((w.setCell ⟨b, g * 2, none⟩ (.int .i64 x.1)).setCell ⟨b, g * 2 + 1, none⟩ (.int .i64 x.2)) b (spc (sp.set g x) ++ more) T := by
  have := (h.set (g * 2) (.int .i64 x.1)).set (g * 2 + 1) (.int .i64 x.2)
  have hl := spc_length sp
  rw [List.set_append_left _ _ (by omega), List.set_append_left _ _ (by rw [List.length_set]; omega)] at this
  rw [spc_set, show 2 * g = g * 2 by omega]
  exact this
def unsetAll (N : Nat) : Spans := List.replicate N (-1, -1)
/-- Spans that the call owns: nil if there are none. -/
def OwnSp (w : World) (base : Nat) (v : Value) (l : Spans) : Prop := (l = [] → v = .slice none 0 0) ∧ w.ownsRow base 46 2 v l.length (spc l)
theorem OwnSp.below {w w' : World} {base : Nat} {v : Value} {l : Spans} (h : OwnSp w base v l) (hb : Below w.heap.size w w') : OwnSp w' base v l :=
  ⟨h.1, h.2.kept (row := none) ⟨hb.os, hb.tape, hb.output, hb.size, fun k hk _ => hb.block k hk⟩ (by cases v.ownBlock <;> simp)⟩
theorem OwnSp.spb {w : World} {base : Nat} {a : Option Addr} {n c : Nat} {l : Spans} (h : OwnSp w base (.slice a n c) l) : SpB (base ≤ ·) w (.slice a n c) l := by
  by_cases h0 : l = []
  · exact .inl ⟨h0, h.1 h0⟩
  · obtain ⟨a', c', e⟩ := ownsRow_shape h.2
    injection e with e1 e2 e3
    subst e2
    exact SpB.own h.2 rfl h0
theorem OwnSp.app {w' : World} {base : Nat} {a' : Option Addr} {n' c' : Nat} {l m : Spans} (hm : m ≠ []) (h : w'.ownsRow base 46 2 (.slice a' n' c') n' (spc l ++ spc m)) (hn : n' = l.length + m.length) : OwnSp w' base (.slice a' n' c') (l ++ m) := by
  refine ⟨fun e => absurd (List.append_eq_nil_iff.1 e).2 hm, ?_⟩
  rw [List.length_append, ← hn, spc_append]
  exact h
theorem Row.grownOwn {w w' : World} {B : Nat} {cs : List Value} {T e : TypeId} {base size n : Nat} {v : Value} {xs : List Value} (r : Row w B cs T) (h : w.ownsRow base e size v n xs) (hne : T ≠ e) (hg : w.grownBy w' v.ownBlock) : Row w' B cs T := by
  refine (hg.block B r.lt fun e1 => ?_).trans r
  obtain ⟨-, h2⟩ := h
  rcases h2 with ⟨hv, -⟩ | ⟨g', cap, cur, hv, -, hh, -⟩
  · rw [hv] at e1; cases e1
  · rw [hv] at e1
    have e2 : B = g' := by simpa [Value.ownBlock] using e1
    subst e2
    unfold Row at r
    rw [hh] at r
    simp only [Option.some.injEq, Obj.cells.injEq] at r
    exact hne r.2.1.symm
theorem unset_app (sp : Spans) (a b : List Nat) : unset sp (a ++ b) = unset (unset sp a) b := by unfold unset; rw [List.foldl_append]
end Go.Proofs.YtkinnfejgpnddaaDoor
