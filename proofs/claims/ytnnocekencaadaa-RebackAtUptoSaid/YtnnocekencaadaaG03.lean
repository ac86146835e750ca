/- The functions on sets of bytes: what each call returns. -/
import Derived.Test.YtnnocekencaadaaProg
import Derived.Test.YtnnocekencaadaaG01
import Derived.RegionTactic
import Derived.BigQuiet
import Derived.BigRegion
import Derived.Test.YtnnocekencaadaaG02
namespace Go.Proofs.Ytnnocekencaadaa
open Go.RowKit
attribute [local go_sem] gives givesUpon

def Cs.word (s : Cs) (q : Nat) : Nat := match q with | 0 => s.a | 1 => s.b | 2 => s.c | _ => s.d
def Cs.has (s : Cs) (c : Nat) : Bool := (s.word (c / 64)).testBit (c % 64)
def Cs.union (s t : Cs) : Cs := ⟨s.a ||| t.a, s.b ||| t.b, s.c ||| t.c, s.d ||| t.d⟩
def Cs.ins (s : Cs) (c : Nat) : Cs :=
  match c / 64 with
  | 0 => { s with a := s.a ||| 2 ^ (c % 64) }
  | 1 => { s with b := s.b ||| 2 ^ (c % 64) }
  | 2 => { s with c := s.c ||| 2 ^ (c % 64) }
  | _ => { s with d := s.d ||| 2 ^ (c % 64) }

theorem or_lt64 {a b : Nat} (ha : W64 a) (hb : W64 b) : W64 (a ||| b) := Nat.or_lt_two_pow (n := 64) ha hb
theorem Cs.union_wf {s t : Cs} (hs : s.wf) (ht : t.wf) : (s.union t).wf :=
  ⟨or_lt64 hs.a ht.a, or_lt64 hs.b ht.b, or_lt64 hs.c ht.c, or_lt64 hs.d ht.d⟩
theorem pow_lt64 {r : Nat} (h : r < 64) : W64 (2 ^ r) := Nat.pow_lt_pow_right (by decide) h
theorem Cs.ins_wf {s : Cs} (hs : s.wf) (c : Nat) : (s.ins c).wf := by
  have hr : W64 (2 ^ (c % 64)) := pow_lt64 (Nat.mod_lt _ (by decide))
  unfold Cs.ins
  split
  · exact ⟨or_lt64 hs.a hr, hs.b, hs.c, hs.d⟩
  · exact ⟨hs.a, or_lt64 hs.b hr, hs.c, hs.d⟩
  · exact ⟨hs.a, hs.b, or_lt64 hs.c hr, hs.d⟩
  · exact ⟨hs.a, hs.b, hs.c, or_lt64 hs.d hr⟩

theorem has_bit (x r : Nat) (hx : W64 x) : (bits .and .u64 ((x : Int) / 2 ^ r) 1 == 1) = x.testBit r := by
  have e : ((x : Int) / 2 ^ r) = ((x / 2 ^ r : Nat) : Int) := by simp
  rw [e]
  have h1 : x / 2 ^ r < 18446744073709551616 := Nat.lt_of_le_of_lt (Nat.div_le_self _ _) hx
  have h2 := bits_and_u64_nat (x / 2 ^ r) 1 h1 (by decide)
  simp only [Int.natCast_one] at h2
  rw [h2, Nat.and_one_is_mod, Nat.testBit_eq_decide_div_mod_eq]
  by_cases h : x / 2 ^ r % 2 = 1
  · simp [h]
  · have : x / 2 ^ r % 2 = 0 := by omega
    simp [this]

/-- The bits below r, and those from r on. -/
theorem add_bit {x r : Nat} (h : x.testBit r = false) : x + 2 ^ r = x ||| 2 ^ r := by
  apply Nat.eq_of_testBit_eq
  intro j
  rw [Nat.testBit_or, Nat.testBit_two_pow]
  by_cases hj : r = j
  · subst hj; simp [h]; rw [Nat.add_comm, Nat.testBit_two_pow_add_eq, h]; rfl
  · rcases Nat.lt_or_gt_of_ne hj with hlt | hgt
    · have e : x + 2 ^ r = 2 ^ r * (x / 2 ^ r + 1) + x % 2 ^ r := by
        have := Nat.div_add_mod x (2 ^ r)
        rw [Nat.mul_add, Nat.mul_one]; omega
      have e2 : x = 2 ^ r * (x / 2 ^ r) + x % 2 ^ r := (Nat.div_add_mod x (2 ^ r)).symm
      have hm : x % 2 ^ r < 2 ^ r := Nat.mod_lt _ (Nat.two_pow_pos r)
      have h0 : (x / 2 ^ r) % 2 = 0 := by
        have := Nat.testBit_eq_decide_div_mod_eq (x := x) (i := r)
        rw [h] at this
        have h1 : ¬ x / 2 ^ r % 2 = 1 := by simpa using this.symm
        omega
      rw [e, Nat.testBit_two_pow_mul_add _ hm, if_neg (by omega)]
      conv => rhs; rw [e2, Nat.testBit_two_pow_mul_add _ hm, if_neg (by omega)]
      have hd : decide (r = j) = false := by simp; omega
      rw [hd, Bool.or_false]
      obtain ⟨d, hd⟩ : ∃ d, j - r = d + 1 := ⟨j - r - 1, by omega⟩
      rw [hd, Nat.testBit_succ, Nat.testBit_succ]
      congr 1
      omega
    · rw [Nat.add_comm, Nat.testBit_two_pow_add_gt (by omega)]
      simp; omega

set_option maxHeartbeats 400000 in
theorem Has_any (s : Cs) (c : Nat) (w : World) (hs : s.wf) (hc : c < 256) :
    Calls Try.prog 55 #[.agg #[.int .u64 s.a, .int .u64 s.b, .int .u64 s.c, .int .u64 s.d], .int .u8 c] w fun e w' => e = .returned (.bool (s.has c)) ∧ Below w.heap.size w w' := by
  have h1 : ((c : Int) / 64 = 0 ∨ (c : Int) / 64 = 1 ∨ (c : Int) / 64 = 2 ∨ (c : Int) / 64 = 3) := by omega
  have h0 : (0 : Int) ≤ c ∧ (c : Int) < 256 := by omega
  have h2 : 0 ≤ (c : Int) % 64 ∧ (c : Int) % 64 < 64 := by omega
  rcases h1 with h | h | h | h
  all_goals
    go_enter Try.func55, Try.ntmps55
    go_wp2
    go_ret
    refine ⟨congrArg (fun b => Ending.returned (.bool b)) ((has_bit _ _ ?_).trans ?_), (Below.refl _ _).alloc (Nat.le_refl _) _⟩
    · first | exact hs.a | exact hs.b | exact hs.c | exact hs.d
    · unfold Cs.has Cs.word
      first | (rw [show c / 64 = 0 by omega]; done) | (rw [show c / 64 = 0 by omega]; rfl) | (rw [show c / 64 = 1 by omega]; rfl) | (rw [show c / 64 = 2 by omega]; rfl) | (rw [show c / 64 = 3 by omega]; rfl)

theorem word_ins {x r : Nat} (hx : W64 x) (hr : r < 64) (h : x.testBit r = false) : IntKind.u64.wrap ((x : Int) + IntKind.u64.wrap (2 ^ r)) = ((x ||| 2 ^ r : Nat) : Int) := by
  have h1 := pow_lt64 hr
  have h2 := or_lt64 hx h1
  have h3 := add_bit h
  unfold W64 at *
  rw [IntKind.wrap_u64, IntKind.wrap_u64]
  have e : ((2 : Int) ^ r) = ((2 ^ r : Nat) : Int) := by simp
  rw [e, ← h3]
  omega

theorem size_cs : (Try.prog.info? 25).map (·.size) = some 4 := by kernel_rfl
theorem Cs.ins_same {s : Cs} {c : Nat} (h : s.has c = true) : s.ins c = s := by
  unfold Cs.has Cs.word at h
  unfold Cs.ins
  have key : ∀ x : Nat, x.testBit (c % 64) = true → x ||| 2 ^ (c % 64) = x := by
    intro x hx
    apply Nat.eq_of_testBit_eq
    intro j
    rw [Nat.testBit_or, Nat.testBit_two_pow]
    by_cases hj : c % 64 = j
    · subst hj; simp [hx]
    · simp [hj]
  split at h <;> rename_i he <;> (try rw [he]) <;> simp [key _ h]

theorem Cs.ins0 {s : Cs} {c : Nat} (h : c / 64 = 0) : s.ins c = ⟨s.a ||| 2 ^ (c % 64), s.b, s.c, s.d⟩ := by unfold Cs.ins; rw [h]; rfl
theorem Cs.ins1 {s : Cs} {c : Nat} (h : c / 64 = 1) : s.ins c = ⟨s.a, s.b ||| 2 ^ (c % 64), s.c, s.d⟩ := by unfold Cs.ins; rw [h]; rfl
theorem Cs.ins2 {s : Cs} {c : Nat} (h : c / 64 = 2) : s.ins c = ⟨s.a, s.b, s.c ||| 2 ^ (c % 64), s.d⟩ := by unfold Cs.ins; rw [h]; rfl
theorem Cs.ins3 {s : Cs} {c : Nat} (h : c / 64 = 3) : s.ins c = ⟨s.a, s.b, s.c, s.d ||| 2 ^ (c % 64)⟩ := by unfold Cs.ins; rw [h]; rfl

set_option maxHeartbeats 1000000 in
theorem With_any (s : Cs) (c : Nat) (w : World) (hs : s.wf) (hc : c < 256) :
    Calls Try.prog 29 #[.agg #[.int .u64 s.a, .int .u64 s.b, .int .u64 s.c, .int .u64 s.d], .int .u8 c] w fun e w' =>
      e = .returned (.agg #[.int .u64 (s.ins c).a, .int .u64 (s.ins c).b, .int .u64 (s.ins c).c, .int .u64 (s.ins c).d]) ∧ Below w.heap.size w w' := by
  have h1 : ((c : Int) / 64 = 0 ∨ (c : Int) / 64 = 1 ∨ (c : Int) / 64 = 2 ∨ (c : Int) / 64 = 3) := by omega
  have h0 : (0 : Int) ≤ c ∧ (c : Int) < 256 := by omega
  have h2 : 0 ≤ (c : Int) % 64 ∧ (c : Int) % 64 < 64 := by omega
  have HB : Hid (∀ w, Calls Try.prog 55 #[.agg #[.int .u64 s.a, .int .u64 s.b, .int .u64 s.c, .int .u64 s.d], .int .u8 c] w fun e w' => e = .returned (.bool (s.has c)) ∧ Below w.heap.size w w') := fun w => Has_any s c w hs hc
  by_cases hh : s.has c = true
  · rw [hh] at HB
    go_enter Try.func29, Try.ntmps29
    go_wp2_with fail
    refine (HB.out _).mono ?_
    rintro e w1 ⟨rfl, hb⟩
    have hr1 := ((Row.at w s.cells 25).alloc (.cells #[.int .u64 0, .int .u64 0, .int .u64 0, .int .u64 0] 25)).below hb (by simp; omega)
    have hr2 := (Row.at (w.alloc (.cells s.cells.toArray 25)) [.int .u64 0, .int .u64 0, .int .u64 0, .int .u64 0] 25).below hb (by simp [Cs.cells])
    simp only [Cs.cells] at hr1 hr2
    obtain ⟨p1, q1⟩ := hr1.c4
    obtain ⟨p2, q2⟩ := hr2.c4
    have hsz := hb.size
    have hsz2 : w.heap.size + 1 < w1.heap.size := by simp at hsz; omega
    simp at p2 q2
    have HC : Hid (Below w.heap.size w w1) := ((Below.refl _ w).alloc (Nat.le_refl _) _ |>.alloc (by simp) _).trans (hb.mono (by simp; omega))
    clear HB hsz hr1 hr2 hb
    have H0 := hid hh
    clear hh
    go_wp2_with fail
    refine ret_row 4 25 rfl (w.heap.size + 1) rfl [.int .u64 (s.ins c).a, .int .u64 (s.ins c).b, .int .u64 (s.ins c).c, .int .u64 (s.ins c).d] (CellsAt.of4 ?_ ?_ ?_ ?_) _ Try.underlying25 rfl size_cs rfl ⟨rfl, ?_⟩
    any_goals (rw [Cs.ins_same H0.out]; go_simp; done)
    exact (((HC.out.setCell (by simp) _).setCell (by simp) _).setCell (by simp) _).setCell (by simp) _
  have hh' : s.has c = false := by simpa using hh
  rw [hh'] at HB
  rcases h1 with h | h | h | h
  all_goals
    have hi : (s.word (c / 64)).testBit (c % 64) = false := hh'
    first | rw [show c / 64 = 0 by omega] at hi | rw [show c / 64 = 1 by omega] at hi | rw [show c / 64 = 2 by omega] at hi | rw [show c / 64 = 3 by omega] at hi
    have H0 := hid hi
    first | have HS := hid (Cs.ins0 (s := s) (c := c) (by omega)) | have HS := hid (Cs.ins1 (s := s) (c := c) (by omega)) | have HS := hid (Cs.ins2 (s := s) (c := c) (by omega)) | have HS := hid (Cs.ins3 (s := s) (c := c) (by omega))
    clear hh hh' hi
    go_enter Try.func29, Try.ntmps29
    go_wp2_with fail
    refine (HB.out _).mono ?_
    rintro e w1 ⟨rfl, hb⟩
    have hr1 := ((Row.at w s.cells 25).alloc (.cells #[.int .u64 0, .int .u64 0, .int .u64 0, .int .u64 0] 25)).below hb (by simp; omega)
    have hr2 := (Row.at (w.alloc (.cells s.cells.toArray 25)) [.int .u64 0, .int .u64 0, .int .u64 0, .int .u64 0] 25).below hb (by simp [Cs.cells])
    simp only [Cs.cells] at hr1 hr2
    obtain ⟨p1, q1⟩ := hr1.c4
    obtain ⟨p2, q2⟩ := hr2.c4
    have hsz := hb.size
    have hsz2 : w.heap.size + 1 < w1.heap.size := by simp at hsz; omega
    simp at p2 q2
    have HC : Hid (Below w.heap.size w w1) := ((Below.refl _ w).alloc (Nat.le_refl _) _ |>.alloc (by simp) _).trans (hb.mono (by simp; omega))
    clear HB hsz hr1 hr2 hb
    go_wp2_with fail
    rw [HS.out]
    refine ret_row 4 25 rfl (w.heap.size + 1) rfl _ (CellsAt.of4 ?_ ?_ ?_ ?_) _ Try.underlying25 rfl size_cs rfl ⟨rfl, ?_⟩
    any_goals (go_simp; done)
    any_goals exact ((((HC.out.setCell (by simp) _).setCell (by simp) _).setCell (by simp) _).setCell (by simp) _).setCell (by simp) _
    all_goals
      go_simp
      first | exact word_ins hs.a (Nat.mod_lt _ (by decide)) H0.out | exact word_ins hs.b (Nat.mod_lt _ (by decide)) H0.out | exact word_ins hs.c (Nat.mod_lt _ (by decide)) H0.out | exact word_ins hs.d (Nat.mod_lt _ (by decide)) H0.out


def Cs.of (l : List UInt8) : Cs := l.foldl (fun s c => s.ins c.toNat) Cs.none
theorem Cs.foldl_wf (l : List UInt8) : ∀ s : Cs, s.wf → (l.foldl (fun s c => s.ins c.toNat) s).wf := by
  induction l with
  | nil => intro s h; exact h
  | cons c l ih => intro s h; exact ih _ (Cs.ins_wf h _)
theorem Cs.of_wf (l : List UInt8) : (Cs.of l).wf := Cs.foldl_wf l _ Cs.none_wf
theorem Cs.of_snoc (s : ByteArray) (k : Nat) (h : k < s.size) : Cs.of (s.data.toList.take (k + 1)) = (Cs.of (s.data.toList.take k)).ins s[k].toNat := by
  rw [List.take_succ_eq_append_getElem (by simpa using h)]
  simp [Cs.of, List.foldl_append]
  rfl

set_option maxHeartbeats 1000000 in
theorem Of_any (s : ByteArray) (w : World) (hl : s.size ≤ 1048576) :
    Calls Try.prog 22 #[.string s] w fun e w' => e = .returned (.agg #[.int .u64 (Cs.of s.data.toList).a, .int .u64 (Cs.of s.data.toList).b, .int .u64 (Cs.of s.data.toList).c, .int .u64 (Cs.of s.data.toList).d]) ∧ Below w.heap.size w w' := by
  go_enter Try.func22, Try.ntmps22
  go_wp2
  go_loopw [4] (fun i wr => ∃ (k : Nat) (t : Cs), k ≤ s.size ∧ i = .int .i64 k ∧ Hid (t = Cs.of (s.data.toList.take k)) ∧ t.wf ∧ Hid (Row wr (w.heap.size + 1) [.int .u64 t.a, .int .u64 t.b, .int .u64 t.c, .int .u64 t.d] 25 ∧ Row wr w.heap.size [.int .u64 0, .int .u64 0, .int .u64 0, .int .u64 0] 25 ∧ Below w.heap.size w wr)) (fun i _ => s.size - (intOf i).toNat)
  case atStart => exact ⟨0, Cs.none, by omega, rfl, rfl, Cs.none_wf, Row.new (cs := [.int .u64 0, .int .u64 0, .int .u64 0, .int .u64 0]) (by simp), (Row.new (cs := [.int .u64 0, .int .u64 0, .int .u64 0, .int .u64 0]) rfl).alloc _, ((Below.refl _ w).alloc (Nat.le_refl _) _).alloc (by simp) _⟩
  case round =>
    obtain ⟨k, t, hk, rfl, ht, htw, HX⟩ := hrel
    have p1 := HX.out.1.c4
    have p2 := HX.out.2.1.c4
    have h1 := HX.out.1.lt
    have h2 := HX.out.2.1.lt
    by_cases hlt : k < s.size
    · have hc := s[k].toNat_lt
      have HW := hid (With_any t s[k].toNat)
      have HT := hid (Cs.of_snoc s k hlt)
      have HC : Hid (∀ x, Below wr.heap.size wr.drew x → (x.cell? ⟨w.heap.size + 1, 0, none⟩ = some (.int .u64 t.a) ∧ x.cell? ⟨w.heap.size + 1, 1, none⟩ = some (.int .u64 t.b) ∧ x.cell? ⟨w.heap.size + 1, 2, none⟩ = some (.int .u64 t.c) ∧ x.cell? ⟨w.heap.size + 1, 3, none⟩ = some (.int .u64 t.d))) := fun x hx => (HX.out.1.drew.below hx h1).c4.1
      go_wp2_with fail
      refine wp_region_inv 5 (Below wr.heap.size) (by kernel_rfl) (by kernel_rfl) (Below.refl _) (fun _ _ _ => Below.trans) ?_
      simp only [fill, dstOf, Act.put, List.take_succ_cons, List.take_zero, List.getElem?_toArray, List.getElem?_cons_zero, List.getElem?_cons_succ, Option.bind_some, List.setIfInBounds_toArray, List.set_cons_zero, List.set_cons_succ]
      refine Plan.det 1 rfl (Below.refl _) ?_
      apply Exists.intro
      refine ⟨fun vs x hR hF K hK => ?_, ?_⟩
      · have hc := HC.out x hR; clear hF
        go_simp
        exact hK _ _ (Below.refl _ _) rfl
      refine Plan.det 2 rfl (Below.refl _) ?_
      apply Exists.intro
      refine ⟨fun vs x hR hF K hK => ?_, ?_⟩
      · clear hF
        go_simp
        exact hK _ _ (Below.refl _ _) rfl
      refine Plan.det 3 rfl (Below.refl _) ?_
      apply Exists.intro
      refine ⟨fun vs x hR hF K hK => ?_, ?_⟩
      · clear hF
        go_simp
        exact hK _ _ (Below.refl _ _) rfl
      refine Plan.det 4 rfl (Below.refl _) ?_
      apply Exists.intro
      refine ⟨fun vs x hR hF K hK => ?_, ?_⟩
      · have f1 := hF 1 _ _ rfl rfl; have f2 := hF 0 _ _ rfl rfl; clear hF
        go_simp
        exact hK _ _ (Below.refl _ _) rfl
      refine Plan.det 5 rfl (Below.refl _) ?_
      apply Exists.intro
      refine ⟨fun vs x hR hF K hK => ?_, ?_⟩
      · have f0 := hF 3 _ _ rfl rfl; have f3 := hF 0 _ _ rfl rfl; clear hF
        go_simp
        refine (HW.out _ htw hc).mono ?_
        rintro e x1 ⟨rfl, hbe⟩
        exact ⟨_, rfl, hK _ _ (hbe.mono hR.size) rfl⟩
      refine Plan.nil (fun vs x hR hF => ?_)
      have f0 := hF 4 _ _ rfl; have f1 := hF 3 _ _ rfl; have f2 := hF 2 _ _ rfl; have f3 := hF 1 _ _ rfl; have f4 := hF 0 _ _ rfl
      clear hF
      simp only [f0, f1, f2, f3, f4]
      clear f0 f1 f2 f3 f4
      simp only [List.drop_succ_cons, List.drop_zero]
      have HR := hid hR
      have r1 := HX.out.1.drew.below hR h1
      have q1 := r1.c4
      have h3 := r1.lt
      have HR1 := hid r1
      have r2 := hid (HX.out.2.1.drew.below hR h2)
      have hb2 : Hid (Below w.heap.size w x) := HX.out.2.2.trans ((Below.refl _ wr).drew.trans hR |>.mono (Nat.le_of_lt h2))
      clear hR r1 HC p1 p2 q1
      have q1 := HR1.out.c4
      go_wp2_with fail
      go_roundw
      case rel =>
        refine ⟨k + 1, t.ins s[k].toNat, by omega, by go_num, ?_, Cs.ins_wf htw _, (((HR1.out.set 0 _).set 1 _).set 2 _).set 3 _, (((r2.out.other (by omega) _ _).other (by omega) _ _).other (by omega) _ _).other (by omega) _ _, (((hb2.out.setCell (by simp) _).setCell (by simp) _).setCell (by simp) _).setCell (by simp) _⟩
        show _ = _
        rw [HT.out, ← ht.out]
      case measure => simp [intOf]; omega
    · obtain rfl : k = s.size := by omega
      go_wp2_with fail
      have et : Cs.of s.data.toList = t := by rw [ht.out, List.take_of_length_le (by simp)]
      rw [et]
      refine ret_row 2 25 rfl w.heap.size rfl [.int .u64 t.a, .int .u64 t.b, .int .u64 t.c, .int .u64 t.d] (CellsAt.of_row ((((HX.out.2.1.set 0 _).set 1 _).set 2 _).set 3 _)) _ Try.underlying25 rfl size_cs rfl ⟨rfl, (((HX.out.2.2.setCell (by simp) _).setCell (by simp) _).setCell (by simp) _).setCell (by simp) _⟩


/-- The set of the numbers below k of which p is true. -/
def Cs.build (p : Nat → Bool) : Nat → Cs
  | 0 => Cs.none
  | k + 1 => if p k then (Cs.build p k).ins k else Cs.build p k
theorem Cs.build_wf (p : Nat → Bool) : ∀ k, (Cs.build p k).wf
  | 0 => Cs.none_wf
  | k + 1 => by rw [Cs.build]; split; exact Cs.ins_wf (Cs.build_wf p k) k; exact Cs.build_wf p k
theorem Cs.has_ins (s : Cs) (c c' : Nat) (h : c < 256) (h' : c' < 256) : (s.ins c).has c' = (s.has c' || c == c') := by
  have e : (c == c') = decide (c / 64 = c' / 64 ∧ c % 64 = c' % 64) := by
    rw [Bool.eq_iff_iff]; simp; omega
  have hq : c / 64 = 0 ∨ c / 64 = 1 ∨ c / 64 = 2 ∨ c / 64 = 3 := by omega
  have hq' : c' / 64 = 0 ∨ c' / 64 = 1 ∨ c' / 64 = 2 ∨ c' / 64 = 3 := by omega
  rw [e]
  unfold Cs.has Cs.ins Cs.word
  rcases hq with h1 | h1 | h1 | h1 <;> rcases hq' with h2 | h2 | h2 | h2 <;> rw [h1, h2] <;> simp [Nat.testBit_or, Nat.testBit_two_pow]
theorem Cs.has_none (c : Nat) : Cs.none.has c = false := by
  unfold Cs.has Cs.word Cs.none
  split <;> simp
theorem Cs.has_build (p : Nat → Bool) : ∀ k c, k ≤ 256 → c < 256 → (Cs.build p k).has c = (decide (c < k) && p c)
  | 0, c, _, hc => by simp [Cs.build, Cs.has_none]
  | k + 1, c, hk, hc => by
    have ih := Cs.has_build p k c (by omega) hc
    rw [Cs.build]
    by_cases hck : c = k
    · subst hck
      cases hp : p c
      · simp [ih]
      · simp [Cs.has_ins _ _ _ hc hc]
    · have e : decide (c < k + 1) = decide (c < k) := by by_cases h : c < k <;> simp [h] <;> omega
      rw [e, ← ih]
      split
      · rw [Cs.has_ins _ _ _ (by omega) hc, show (k == c) = false by simp; omega]; simp
      · rfl
theorem word_ext {x y : Nat} (hx : W64 x) (hy : W64 y) (h : ∀ r, r < 64 → x.testBit r = y.testBit r) : x = y := by
  apply Nat.eq_of_testBit_eq
  intro j
  by_cases hj : j < 64
  · exact h j hj
  · rw [Nat.testBit_lt_two_pow (Nat.lt_of_lt_of_le (show x < 2 ^ 64 from hx) (Nat.pow_le_pow_right (by decide) (by omega))), Nat.testBit_lt_two_pow (Nat.lt_of_lt_of_le (show y < 2 ^ 64 from hy) (Nat.pow_le_pow_right (by decide) (by omega)))]
theorem Cs.ext_has {s t : Cs} (hs : s.wf) (ht : t.wf) (h : ∀ c, c < 256 → s.has c = t.has c) : s = t := by
  obtain ⟨a, b, c, d⟩ := s
  obtain ⟨a', b', c', d'⟩ := t
  have h0 : a = a' := word_ext hs.a ht.a fun r hr => by
    have := h r (by omega)
    simpa [Cs.has, Cs.word, show r / 64 = 0 by omega, show r % 64 = r by omega] using this
  have h1 : b = b' := word_ext hs.b ht.b fun r hr => by
    have := h (64 + r) (by omega)
    simpa [Cs.has, Cs.word, show (64 + r) / 64 = 1 by omega, show (64 + r) % 64 = r by omega] using this
  have h2 : c = c' := word_ext hs.c ht.c fun r hr => by
    have := h (128 + r) (by omega)
    simpa [Cs.has, Cs.word, show (128 + r) / 64 = 2 by omega, show (128 + r) % 64 = r by omega] using this
  have h3 : d = d' := word_ext hs.d ht.d fun r hr => by
    have := h (192 + r) (by omega)
    simpa [Cs.has, Cs.word, show (192 + r) / 64 = 3 by omega, show (192 + r) % 64 = r by omega] using this
  rw [h0, h1, h2, h3]
theorem Cs.has_union (s t : Cs) (c : Nat) : (s.union t).has c = (s.has c || t.has c) := by
  unfold Cs.has Cs.union Cs.word
  split <;> simp [Nat.testBit_or]
theorem Cs.build_union {s t : Cs} (hs : s.wf) (ht : t.wf) : Cs.build (fun c => s.has c || t.has c) 256 = s.union t :=
  Cs.ext_has (Cs.build_wf _ _) (Cs.union_wf hs ht) fun c hc => by rw [Cs.has_build _ _ _ (Nat.le_refl _) hc, Cs.has_union]; simp [hc]

/-- What lies in memory while two sets are combined. -/
def Cmb (w : World) (s u t : Cs) (wr : World) : Prop := Row wr w.heap.size [.int .u64 s.a, .int .u64 s.b, .int .u64 s.c, .int .u64 s.d] 25 ∧ Row wr (w.heap.size + 1) [.int .u64 u.a, .int .u64 u.b, .int .u64 u.c, .int .u64 u.d] 25 ∧
      Row wr (w.heap.size + 2) [.int .u64 0, .int .u64 0, .int .u64 0, .int .u64 0] 25 ∧ Row wr (w.heap.size + 3) [.int .u64 t.a, .int .u64 t.b, .int .u64 t.c, .int .u64 t.d] 25 ∧ Below w.heap.size w wr
theorem Cmb.below {w : World} {s u t : Cs} {wr x : World} (h : Cmb w s u t wr) (hb : Below wr.heap.size wr x) : Cmb w s u t x := by
  obtain ⟨h1, h2, h3, h4, h5⟩ := h
  exact ⟨h1.below hb h1.lt, h2.below hb h2.lt, h3.below hb h3.lt, h4.below hb h4.lt, h5.trans (hb.mono (Nat.le_of_lt h1.lt))⟩
theorem Cmb.put {w : World} {s u t : Cs} {wr : World} (h : Cmb w s u t wr) (t' : Cs) : Cmb w s u t' ((((wr.setCell ⟨w.heap.size + 3, 0, none⟩ (.int .u64 t'.a)).setCell ⟨w.heap.size + 3, 1, none⟩ (.int .u64 t'.b)).setCell ⟨w.heap.size + 3, 2, none⟩ (.int .u64 t'.c)).setCell ⟨w.heap.size + 3, 3, none⟩ (.int .u64 t'.d)) := by
  obtain ⟨h1, h2, h3, h4, h5⟩ := h
  exact ⟨h1.other4 (by omega) _ _ _ _, h2.other4 (by omega) _ _ _ _, h3.other4 (by omega) _ _ _ _, h4.set4 _ _ _ _, below4 h5 (by omega) _ _ _ _⟩



def Cs.part (s u : Cs) : Nat → Cs
  | 0 => s
  | 1 => ⟨s.a ||| u.a, s.b, s.c, s.d⟩
  | 2 => ⟨s.a ||| u.a, s.b ||| u.b, s.c, s.d⟩
  | 3 => ⟨s.a ||| u.a, s.b ||| u.b, s.c ||| u.c, s.d⟩
  | _ => s.union u


end Go.Proofs.Ytnnocekencaadaa
