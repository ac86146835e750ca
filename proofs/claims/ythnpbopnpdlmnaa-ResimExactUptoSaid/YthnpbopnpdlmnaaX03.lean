/- The functions on sets of bytes: what each call returns. -/
import Derived.Test.YthnpbopnpdlmnaaProg
import Derived.Test.YthnpbopnpdlmnaaX01
import Derived.RegionTactic
import Derived.BigQuiet
import Derived.BigRegion
import Derived.Test.YthnpbopnpdlmnaaX02
import Derived.Laws.OwnMore
import Derived.Deep.AppendLies
import Derived.Deep.RegionLaw
namespace Go.Proofs.Ythnpbopnpdlmnaa
open Go.RowKit
attribute [local go_sem] gives givesUpon

def Cs.word (s : Cs) (q : Nat) : Nat := match q with | 0 => s.a | 1 => s.b | 2 => s.c | _ => s.d
def Cs.has (s : Cs) (c : Nat) : Bool := (s.word (c / 64)).testBit (c % 64)
def Cs.ins (s : Cs) (c : Nat) : Cs :=
  match c / 64 with
  | 0 => { s with a := s.a ||| 2 ^ (c % 64) }
  | 1 => { s with b := s.b ||| 2 ^ (c % 64) }
  | 2 => { s with c := s.c ||| 2 ^ (c % 64) }
  | _ => { s with d := s.d ||| 2 ^ (c % 64) }

theorem or_lt64 {a b : Nat} (ha : W64 a) (hb : W64 b) : W64 (a ||| b) := Nat.or_lt_two_pow (n := 64) ha hb
theorem pow_lt64 {r : Nat} (h : r < 64) : W64 (2 ^ r) := Nat.pow_lt_pow_right (by decide) h
theorem Cs.ins_wf {s : Cs} (hs : s.wf) (c : Nat) : (s.ins c).wf := by
  have hr : W64 (2 ^ (c % 64)) := pow_lt64 (Nat.mod_lt _ (by decide))
  unfold Cs.ins
  split
  · exact ⟨or_lt64 hs.a hr, hs.b, hs.c, hs.d⟩
  · exact ⟨hs.a, or_lt64 hs.b hr, hs.c, hs.d⟩
  · exact ⟨hs.a, hs.b, or_lt64 hs.c hr, hs.d⟩
  · exact ⟨hs.a, hs.b, hs.c, or_lt64 hs.d hr⟩

theorem has_bit (x r : Nat) (hx : W64 x) : (bits .and .u64 ((x : Int) / 2 ^ r) 1 == 1) = x.testBit r := by
  have e : ((x : Int) / 2 ^ r) = ((x / 2 ^ r : Nat) : Int) := by simp
  rw [e]
  have h1 : x / 2 ^ r < 18446744073709551616 := Nat.lt_of_le_of_lt (Nat.div_le_self _ _) hx
  have h2 := bits_and_u64_nat (x / 2 ^ r) 1 h1 (by decide)
  simp only [Int.natCast_one] at h2
  rw [h2, Nat.and_one_is_mod, Nat.testBit_eq_decide_div_mod_eq]
  by_cases h : x / 2 ^ r % 2 = 1
  · simp [h]
  · have : x / 2 ^ r % 2 = 0 := by omega
    simp [this]

theorem add_bit {x r : Nat} (h : x.testBit r = false) : x + 2 ^ r = x ||| 2 ^ r := by
  apply Nat.eq_of_testBit_eq
  intro j
  rw [Nat.testBit_or, Nat.testBit_two_pow]
  by_cases hj : r = j
  · subst hj; simp [h]; rw [Nat.add_comm, Nat.testBit_two_pow_add_eq, h]; rfl
  · rcases Nat.lt_or_gt_of_ne hj with hlt | hgt
    · have e : x + 2 ^ r = 2 ^ r * (x / 2 ^ r + 1) + x % 2 ^ r := by
        have := Nat.div_add_mod x (2 ^ r)
        rw [Nat.mul_add, Nat.mul_one]; omega
      have e2 : x = 2 ^ r * (x / 2 ^ r) + x % 2 ^ r := (Nat.div_add_mod x (2 ^ r)).symm
      have hm : x % 2 ^ r < 2 ^ r := Nat.mod_lt _ (Nat.two_pow_pos r)
      have h0 : (x / 2 ^ r) % 2 = 0 := by
        have := Nat.testBit_eq_decide_div_mod_eq (x := x) (i := r)
        rw [h] at this
        have h1 : ¬ x / 2 ^ r % 2 = 1 := by simpa using this.symm
        omega
      rw [e, Nat.testBit_two_pow_mul_add _ hm, if_neg (by omega)]
      conv => rhs; rw [e2, Nat.testBit_two_pow_mul_add _ hm, if_neg (by omega)]
      have hd : decide (r = j) = false := by simp; omega
      rw [hd, Bool.or_false]
      obtain ⟨d, hd⟩ : ∃ d, j - r = d + 1 := ⟨j - r - 1, by omega⟩
      rw [hd, Nat.testBit_succ, Nat.testBit_succ]
      congr 1
      omega
    · rw [Nat.add_comm, Nat.testBit_two_pow_add_gt (by omega)]
      simp; omega

set_option maxHeartbeats 400000 in
theorem Has_any (s : Cs) (c : Nat) (w : World) (hs : s.wf) (hc : c < 256) :
    Calls Try.prog 50 #[.agg #[.int .u64 s.a, .int .u64 s.b, .int .u64 s.c, .int .u64 s.d], .int .u8 c] w fun e w' => e = .returned (.bool (s.has c)) ∧ Below w.heap.size w w' := by
  have h1 : ((c : Int) / 64 = 0 ∨ (c : Int) / 64 = 1 ∨ (c : Int) / 64 = 2 ∨ (c : Int) / 64 = 3) := by omega
  have h0 : (0 : Int) ≤ c ∧ (c : Int) < 256 := by omega
  have h2 : 0 ≤ (c : Int) % 64 ∧ (c : Int) % 64 < 64 := by omega
  rcases h1 with h | h | h | h
  all_goals
    go_enter Try.func50, Try.ntmps50
    go_wp2
    go_ret
    refine ⟨congrArg (fun b => Ending.returned (.bool b)) ((has_bit _ _ ?_).trans ?_), (Below.refl _ _).alloc (Nat.le_refl _) _⟩
    · first | exact hs.a | exact hs.b | exact hs.c | exact hs.d
    · unfold Cs.has Cs.word
      first | (rw [show c / 64 = 0 by omega]; done) | (rw [show c / 64 = 0 by omega]; rfl) | (rw [show c / 64 = 1 by omega]; rfl) | (rw [show c / 64 = 2 by omega]; rfl) | (rw [show c / 64 = 3 by omega]; rfl)

theorem word_ins {x r : Nat} (hx : W64 x) (hr : r < 64) (h : x.testBit r = false) : IntKind.u64.wrap ((x : Int) + IntKind.u64.wrap (2 ^ r)) = ((x ||| 2 ^ r : Nat) : Int) := by
  have h1 := pow_lt64 hr
  have h2 := or_lt64 hx h1
  have h3 := add_bit h
  unfold W64 at *
  rw [IntKind.wrap_u64, IntKind.wrap_u64]
  have e : ((2 : Int) ^ r) = ((2 ^ r : Nat) : Int) := by simp
  rw [e, ← h3]
  omega

theorem size_cs : (Try.prog.info? 25).map (·.size) = some 4 := by kernel_rfl
theorem Cs.ins_same {s : Cs} {c : Nat} (h : s.has c = true) : s.ins c = s := by
  unfold Cs.has Cs.word at h
  unfold Cs.ins
  have key : ∀ x : Nat, x.testBit (c % 64) = true → x ||| 2 ^ (c % 64) = x := by
    intro x hx
    apply Nat.eq_of_testBit_eq
    intro j
    rw [Nat.testBit_or, Nat.testBit_two_pow]
    by_cases hj : c % 64 = j
    · subst hj; simp [hx]
    · simp [hj]
  split at h <;> rename_i he <;> (try rw [he]) <;> simp [key _ h]

theorem Cs.ins0 {s : Cs} {c : Nat} (h : c / 64 = 0) : s.ins c = ⟨s.a ||| 2 ^ (c % 64), s.b, s.c, s.d⟩ := by unfold Cs.ins; rw [h]; rfl
theorem Cs.ins1 {s : Cs} {c : Nat} (h : c / 64 = 1) : s.ins c = ⟨s.a, s.b ||| 2 ^ (c % 64), s.c, s.d⟩ := by unfold Cs.ins; rw [h]; rfl
theorem Cs.ins2 {s : Cs} {c : Nat} (h : c / 64 = 2) : s.ins c = ⟨s.a, s.b, s.c ||| 2 ^ (c % 64), s.d⟩ := by unfold Cs.ins; rw [h]; rfl
theorem Cs.ins3 {s : Cs} {c : Nat} (h : c / 64 = 3) : s.ins c = ⟨s.a, s.b, s.c, s.d ||| 2 ^ (c % 64)⟩ := by unfold Cs.ins; rw [h]; rfl

set_option maxHeartbeats 1000000 in
theorem With_any (s : Cs) (c : Nat) (w : World) (hs : s.wf) (hc : c < 256) :
    Calls Try.prog 71 #[.agg #[.int .u64 s.a, .int .u64 s.b, .int .u64 s.c, .int .u64 s.d], .int .u8 c] w fun e w' =>
      e = .returned (.agg #[.int .u64 (s.ins c).a, .int .u64 (s.ins c).b, .int .u64 (s.ins c).c, .int .u64 (s.ins c).d]) ∧ Below w.heap.size w w' := by
  have h1 : ((c : Int) / 64 = 0 ∨ (c : Int) / 64 = 1 ∨ (c : Int) / 64 = 2 ∨ (c : Int) / 64 = 3) := by omega
  have h0 : (0 : Int) ≤ c ∧ (c : Int) < 256 := by omega
  have h2 : 0 ≤ (c : Int) % 64 ∧ (c : Int) % 64 < 64 := by omega
  have HB : Hid (∀ w, Calls Try.prog 50 #[.agg #[.int .u64 s.a, .int .u64 s.b, .int .u64 s.c, .int .u64 s.d], .int .u8 c] w fun e w' => e = .returned (.bool (s.has c)) ∧ Below w.heap.size w w') := fun w => Has_any s c w hs hc
  by_cases hh : s.has c = true
  · rw [hh] at HB
    go_enter Try.func71, Try.ntmps71
    go_wp2_with fail
    refine (HB.out _).mono ?_
    rintro e w1 ⟨rfl, hb⟩
    have hr1 := ((Row.at w s.cells 25).alloc (.cells #[.int .u64 0, .int .u64 0, .int .u64 0, .int .u64 0] 25)).below hb (by simp; omega)
    have hr2 := (Row.at (w.alloc (.cells s.cells.toArray 25)) [.int .u64 0, .int .u64 0, .int .u64 0, .int .u64 0] 25).below hb (by simp [Cs.cells])
    simp only [Cs.cells] at hr1 hr2
    obtain ⟨p1, q1⟩ := hr1.c4
    obtain ⟨p2, q2⟩ := hr2.c4
    have hsz := hb.size
    have hsz2 : w.heap.size + 1 < w1.heap.size := by simp at hsz; omega
    simp at p2 q2
    have HC : Hid (Below w.heap.size w w1) := ((Below.refl _ w).alloc (Nat.le_refl _) _ |>.alloc (by simp) _).trans (hb.mono (by simp; omega))
    clear HB hsz hr1 hr2 hb
    have H0 := hid hh
    clear hh
    go_wp2_with fail
    refine ret_row 4 25 rfl (w.heap.size + 1) rfl [.int .u64 (s.ins c).a, .int .u64 (s.ins c).b, .int .u64 (s.ins c).c, .int .u64 (s.ins c).d] (CellsAt.of4 ?_ ?_ ?_ ?_) _ Try.underlying25 rfl size_cs rfl ⟨rfl, ?_⟩
    any_goals (rw [Cs.ins_same H0.out]; go_simp; done)
    exact (((HC.out.setCell (by simp) _).setCell (by simp) _).setCell (by simp) _).setCell (by simp) _
  have hh' : s.has c = false := by simpa using hh
  rw [hh'] at HB
  rcases h1 with h | h | h | h
  all_goals
    have hi : (s.word (c / 64)).testBit (c % 64) = false := hh'
    first | rw [show c / 64 = 0 by omega] at hi | rw [show c / 64 = 1 by omega] at hi | rw [show c / 64 = 2 by omega] at hi | rw [show c / 64 = 3 by omega] at hi
    have H0 := hid hi
    first | have HS := hid (Cs.ins0 (s := s) (c := c) (by omega)) | have HS := hid (Cs.ins1 (s := s) (c := c) (by omega)) | have HS := hid (Cs.ins2 (s := s) (c := c) (by omega)) | have HS := hid (Cs.ins3 (s := s) (c := c) (by omega))
    clear hh hh' hi
    go_enter Try.func71, Try.ntmps71
    go_wp2_with fail
    refine (HB.out _).mono ?_
    rintro e w1 ⟨rfl, hb⟩
    have hr1 := ((Row.at w s.cells 25).alloc (.cells #[.int .u64 0, .int .u64 0, .int .u64 0, .int .u64 0] 25)).below hb (by simp; omega)
    have hr2 := (Row.at (w.alloc (.cells s.cells.toArray 25)) [.int .u64 0, .int .u64 0, .int .u64 0, .int .u64 0] 25).below hb (by simp [Cs.cells])
    simp only [Cs.cells] at hr1 hr2
    obtain ⟨p1, q1⟩ := hr1.c4
    obtain ⟨p2, q2⟩ := hr2.c4
    have hsz := hb.size
    have hsz2 : w.heap.size + 1 < w1.heap.size := by simp at hsz; omega
    simp at p2 q2
    have HC : Hid (Below w.heap.size w w1) := ((Below.refl _ w).alloc (Nat.le_refl _) _ |>.alloc (by simp) _).trans (hb.mono (by simp; omega))
    clear HB hsz hr1 hr2 hb
    go_wp2_with fail
    rw [HS.out]
    refine ret_row 4 25 rfl (w.heap.size + 1) rfl _ (CellsAt.of4 ?_ ?_ ?_ ?_) _ Try.underlying25 rfl size_cs rfl ⟨rfl, ?_⟩
    any_goals (go_simp; done)
    any_goals exact ((((HC.out.setCell (by simp) _).setCell (by simp) _).setCell (by simp) _).setCell (by simp) _).setCell (by simp) _
    all_goals
      go_simp
      first | exact word_ins hs.a (Nat.mod_lt _ (by decide)) H0.out | exact word_ins hs.b (Nat.mod_lt _ (by decide)) H0.out | exact word_ins hs.c (Nat.mod_lt _ (by decide)) H0.out | exact word_ins hs.d (Nat.mod_lt _ (by decide)) H0.out


def Cs.of (l : List UInt8) : Cs := l.foldl (fun s c => s.ins c.toNat) Cs.none
theorem Cs.foldl_wf (l : List UInt8) : ∀ s : Cs, s.wf → (l.foldl (fun s c => s.ins c.toNat) s).wf := by
  induction l with
  | nil => intro s h; exact h
  | cons c l ih => intro s h; exact ih _ (Cs.ins_wf h _)
theorem Cs.of_wf (l : List UInt8) : (Cs.of l).wf := Cs.foldl_wf l _ Cs.none_wf
theorem Cs.of_snoc (s : ByteArray) (k : Nat) (h : k < s.size) : Cs.of (s.data.toList.take (k + 1)) = (Cs.of (s.data.toList.take k)).ins s[k].toNat := by
  rw [List.take_succ_eq_append_getElem (by simpa using h)]
  simp [Cs.of, List.foldl_append]
  rfl

set_option maxHeartbeats 1000000 in
theorem Of_any (s : ByteArray) (w : World) (hl : s.size ≤ 1048576) :
    Calls Try.prog 48 #[.string s] w fun e w' => e = .returned (.agg #[.int .u64 (Cs.of s.data.toList).a, .int .u64 (Cs.of s.data.toList).b, .int .u64 (Cs.of s.data.toList).c, .int .u64 (Cs.of s.data.toList).d]) ∧ Below w.heap.size w w' := by
  go_enter Try.func48, Try.ntmps48
  go_wp2
  go_loopw [4] (fun i wr => ∃ (k : Nat) (t : Cs), k ≤ s.size ∧ i = .int .i64 k ∧ Hid (t = Cs.of (s.data.toList.take k)) ∧ t.wf ∧ Hid (Row wr (w.heap.size + 1) [.int .u64 t.a, .int .u64 t.b, .int .u64 t.c, .int .u64 t.d] 25 ∧ Row wr w.heap.size [.int .u64 0, .int .u64 0, .int .u64 0, .int .u64 0] 25 ∧ Below w.heap.size w wr)) (fun i _ => s.size - (intOf i).toNat)
  case atStart => exact ⟨0, Cs.none, by omega, rfl, rfl, Cs.none_wf, Row.new (cs := [.int .u64 0, .int .u64 0, .int .u64 0, .int .u64 0]) (by simp), (Row.new (cs := [.int .u64 0, .int .u64 0, .int .u64 0, .int .u64 0]) rfl).alloc _, ((Below.refl _ w).alloc (Nat.le_refl _) _).alloc (by simp) _⟩
  case round =>
    obtain ⟨k, t, hk, rfl, ht, htw, HX⟩ := hrel
    have p1 := HX.out.1.c4
    have p2 := HX.out.2.1.c4
    have h1 := HX.out.1.lt
    have h2 := HX.out.2.1.lt
    by_cases hlt : k < s.size
    · have hc := s[k].toNat_lt
      have HW := hid (With_any t s[k].toNat)
      have HT := hid (Cs.of_snoc s k hlt)
      have HC : Hid (∀ x, Below wr.heap.size wr.drew x → (x.cell? ⟨w.heap.size + 1, 0, none⟩ = some (.int .u64 t.a) ∧ x.cell? ⟨w.heap.size + 1, 1, none⟩ = some (.int .u64 t.b) ∧ x.cell? ⟨w.heap.size + 1, 2, none⟩ = some (.int .u64 t.c) ∧ x.cell? ⟨w.heap.size + 1, 3, none⟩ = some (.int .u64 t.d))) := fun x hx => (HX.out.1.drew.below hx h1).c4.1
      go_wp2_with fail
      refine wp_region_inv 5 (Below wr.heap.size) (by kernel_rfl) (by kernel_rfl) (Below.refl _) (fun _ _ _ => Below.trans) ?_
      simp only [fill, dstOf, Act.put, List.take_succ_cons, List.take_zero, List.getElem?_toArray, List.getElem?_cons_zero, List.getElem?_cons_succ, Option.bind_some, List.setIfInBounds_toArray, List.set_cons_zero, List.set_cons_succ]
      refine Plan.det 1 rfl (Below.refl _) ?_
      apply Exists.intro
      refine ⟨fun vs x hR hF K hK => ?_, ?_⟩
      · have hc := HC.out x hR; clear hF
        go_simp
        exact hK _ _ (Below.refl _ _) rfl
      refine Plan.det 2 rfl (Below.refl _) ?_
      apply Exists.intro
      refine ⟨fun vs x hR hF K hK => ?_, ?_⟩
      · clear hF
        go_simp
        exact hK _ _ (Below.refl _ _) rfl
      refine Plan.det 3 rfl (Below.refl _) ?_
      apply Exists.intro
      refine ⟨fun vs x hR hF K hK => ?_, ?_⟩
      · clear hF
        go_simp
        exact hK _ _ (Below.refl _ _) rfl
      refine Plan.det 4 rfl (Below.refl _) ?_
      apply Exists.intro
      refine ⟨fun vs x hR hF K hK => ?_, ?_⟩
      · have f1 := hF 1 _ _ rfl rfl; have f2 := hF 0 _ _ rfl rfl; clear hF
        go_simp
        exact hK _ _ (Below.refl _ _) rfl
      refine Plan.det 5 rfl (Below.refl _) ?_
      apply Exists.intro
      refine ⟨fun vs x hR hF K hK => ?_, ?_⟩
      · have f0 := hF 3 _ _ rfl rfl; have f3 := hF 0 _ _ rfl rfl; clear hF
        go_simp
        refine (HW.out _ htw hc).mono ?_
        rintro e x1 ⟨rfl, hbe⟩
        exact ⟨_, rfl, hK _ _ (hbe.mono hR.size) rfl⟩
      refine Plan.nil (fun vs x hR hF => ?_)
      have f0 := hF 4 _ _ rfl; have f1 := hF 3 _ _ rfl; have f2 := hF 2 _ _ rfl; have f3 := hF 1 _ _ rfl; have f4 := hF 0 _ _ rfl
      clear hF
      simp only [f0, f1, f2, f3, f4]
      clear f0 f1 f2 f3 f4
      simp only [List.drop_succ_cons, List.drop_zero]
      have HR := hid hR
      have r1 := HX.out.1.drew.below hR h1
      have q1 := r1.c4
      have h3 := r1.lt
      have HR1 := hid r1
      have r2 := hid (HX.out.2.1.drew.below hR h2)
      have hb2 : Hid (Below w.heap.size w x) := HX.out.2.2.trans ((Below.refl _ wr).drew.trans hR |>.mono (Nat.le_of_lt h2))
      clear hR r1 HC p1 p2 q1
      have q1 := HR1.out.c4
      go_wp2_with fail
      go_roundw
      case rel =>
        refine ⟨k + 1, t.ins s[k].toNat, by omega, by go_num, ?_, Cs.ins_wf htw _, (((HR1.out.set 0 _).set 1 _).set 2 _).set 3 _, (((r2.out.other (by omega) _ _).other (by omega) _ _).other (by omega) _ _).other (by omega) _ _, (((hb2.out.setCell (by simp) _).setCell (by simp) _).setCell (by simp) _).setCell (by simp) _⟩
        show _ = _
        rw [HT.out, ← ht.out]
      case measure => simp [intOf]; omega
    · obtain rfl : k = s.size := by omega
      go_wp2_with fail
      have et : Cs.of s.data.toList = t := by rw [ht.out, List.take_of_length_le (by simp)]
      rw [et]
      refine ret_row 2 25 rfl w.heap.size rfl [.int .u64 t.a, .int .u64 t.b, .int .u64 t.c, .int .u64 t.d] (CellsAt.of_row ((((HX.out.2.1.set 0 _).set 1 _).set 2 _).set 3 _)) _ Try.underlying25 rfl size_cs rfl ⟨rfl, (((HX.out.2.2.setCell (by simp) _).setCell (by simp) _).setCell (by simp) _).setCell (by simp) _⟩


end Go.Proofs.Ythnpbopnpdlmnaa

/- The numbers of nodes of a tree: what each call that counts them returns. -/
namespace Go.Proofs.Ythnpbopnpdlmnaa
open Go.RowKit

mutual
def Re.count (q : Int → Bool) : Re → Nat
  | .mk p xs => Re.counts q xs + if q p.op then 1 else 0
def Re.counts (q : Int → Bool) : List Re → Nat
  | [] => 0
  | t :: ts => t.count q + Re.counts q ts
end
def Re.size (t : Re) : Nat := t.count fun _ => true
def Re.sizes (l : List Re) : Nat := Re.counts (fun _ => true) l
def Re.groups (t : Re) : Nat := t.count (· == 6)
def Re.backs (t : Re) : Nat := t.count (· == 9)
theorem Re.size_mk (p : Pay) (xs : List Re) : (Re.mk p xs).size = Re.sizes xs + 1 := by simp [Re.size, Re.count, Re.sizes]
theorem Re.counts_take (q : Int → Bool) : ∀ (xs : List Re) (i : Nat) (a : Re), xs[i]? = some a → Re.counts q (xs.take (i + 1)) = Re.counts q (xs.take i) + a.count q
  | t :: ts, 0, a, h => by simp at h; subst h; simp [Re.counts]
  | t :: ts, i + 1, a, h => by
    have := Re.counts_take q ts i a (by simpa using h)
    simp [Re.counts, this]; omega
theorem Re.counts_take_le (q : Int → Bool) : ∀ (xs : List Re) (i : Nat), Re.counts q (xs.take i) ≤ Re.counts q xs
  | [], i => by simp
  | t :: ts, 0 => by simp [Re.counts]
  | t :: ts, i + 1 => by have := Re.counts_take_le q ts i; simp [Re.counts]; omega
mutual
theorem Re.count_le (q : Int → Bool) : ∀ t : Re, t.count q ≤ t.size
  | .mk p xs => by have := Re.counts_le q xs; rw [Re.size_mk, Re.count]; split <;> omega
theorem Re.counts_le (q : Int → Bool) : ∀ xs : List Re, Re.counts q xs ≤ Re.sizes xs
  | [] => by simp [Re.counts, Re.sizes]
  | t :: ts => by have h1 := Re.count_le q t; have h2 := Re.counts_le q ts; simp only [Re.sizes, Re.counts, Re.size] at *; omega
end
theorem Re.sizes_len : ∀ (xs : List Re), xs.length ≤ Re.sizes xs
  | [] => by simp
  | .mk p l :: ts => by have := Re.sizes_len ts; simp [Re.sizes, Re.counts, Re.count] at *; omega
theorem Re.size_get {xs : List Re} {i : Nat} {a : Re} (h : xs[i]? = some a) : a.size ≤ Re.sizes xs := by
  have h1 := Re.counts_take (fun _ => true) xs i a h
  have h2 := Re.counts_take_le (fun _ => true) xs (i + 1)
  simp only [Re.sizes, Re.size] at *; omega
theorem size_re : (Try.prog.info? 28).map (·.size) = some 9 := by kernel_rfl

theorem size_re9 (a b c d e f g h i : Value) : (Try.prog.info? 28).map (·.size) = some [a, b, c, d, e, f, g, h, i].length := size_re

theorem Re.AllIn.kid {wb wr : World} {xs : List Re} {ad : Option Addr} (h : Re.AllIn wb xs ad 0) (hb : Below wb.heap.size wb wr) (k : Nat) (hk : k < xs.length) :
    ∃ (b o : Nat) (p : Pay) (ad' : Option Addr) (n' cap' : Nat), ad = some ⟨b, o, none⟩ ∧ Hid (CellsAt wr b (o + k * 9) [.int .i64 p.op, .int .u64 p.set.a, .int .u64 p.set.b, .int .u64 p.set.c, .int .u64 p.set.d, .int .i64 p.lo, .int .i64 p.hi, .int .i64 p.gr, .slice ad' n' cap']) ∧
      Hid (Re.In wb xs[k] [.int .i64 p.op, .int .u64 p.set.a, .int .u64 p.set.b, .int .u64 p.set.c, .int .u64 p.set.d, .int .i64 p.lo, .int .i64 p.hi, .int .i64 p.gr, .slice ad' n' cap']) ∧ b < wb.heap.size := by
  obtain ⟨b, o, cs, h1, h2, h3⟩ := h.get k xs[k] (by simp [hk])
  have hn := h3.nine
  have hb2 : b < wb.heap.size := h2.block (by rintro rfl; simp at hn)
  cases hx : xs[k] with
  | mk p ys =>
    rw [hx, Re.In] at h3
    obtain ⟨ad', cap', rfl, h3⟩ := h3
    refine ⟨b, o, p, ad', ys.length, cap', h1, ?_, ?_, hb2⟩
    · have := h2.below hb
      show CellsAt _ _ _ _
      simpa [Pay.cells] using this
    · show Re.In _ _ _
      rw [Re.In]
      exact ⟨ad', cap', rfl, h3⟩

def hits (op o : Int) : Bool := op == 0 || o == op
end Go.Proofs.Ythnpbopnpdlmnaa

/- Append to a slice of the call's own: what is owned behind it, and where it may lie. Nothing here speaks of the program. -/
namespace Go.Proofs.Ythnpbopnpdlmnaa
open Go.RowKit

theorem ownsRow_base {w : World} {b b' : Nat} {e : TypeId} {size : Nat} {v : Value} {n : Nat} {xs : List Value} (h : w.ownsRow b e size v n xs) (hb : b' ≤ b) : w.ownsRow b' e size v n xs := by
  obtain ⟨h1, h2⟩ := h
  refine ⟨h1, ?_⟩
  rcases h2 with h2 | ⟨g, cap, cur, hv, hg, hr⟩
  · exact .inl h2
  · exact .inr ⟨g, cap, cur, hv, Nat.le_trans hb hg, hr⟩
theorem ownsRow_shape {w : World} {b : Nat} {e : TypeId} {size : Nat} {v : Value} {n : Nat} {xs : List Value} (h : w.ownsRow b e size v n xs) : ∃ a c, v = .slice a n c := by
  rcases h.2 with ⟨rfl, rfl⟩ | ⟨g, cap, cur, rfl, _⟩
  · exact ⟨_, _, rfl⟩
  · exact ⟨_, _, rfl⟩

theorem wpList_append_row {P : Program} {ops : Array Oper} {rest : List Oper} {o : Oper} {a : Act} {w : World} {Q : Exit → Act → World → Prop} (hgd : o.guard = none) (s x : Operand) (t : TypeId)
    (ho : o.op = .call { callee := .builtin .append, args := #[s, x], argTypes := #[t, t] })
    (base : Nat) (e : TypeId) (i : TypeInfo) (z : Value) (size bytes : Nat) (ht : P.underlying t = some (.slice e)) (hi : P.info? e = some i) (hz : i.zero = some z)
    (hsize : i.size = size) (hby : i.bytes = bytes) (hzs : z.cells.size = size) (hsz : 0 < size)
    (v : Value) (n : Nat) (xs : List Value) (hs : a.eval s = v) (hown : w.ownsRow base e size v n xs)
    (ad : Addr) (m c : Nat) (news : List Value) (hx : a.eval x = .slice (some ad) m c) (hl : news.length = m * size) (hnews : ∀ j u, news[j]? = some u → w.cell? (ad.add j) = some u) (h1 : ∀ u ∈ news, u.oneCell' = true)
    (h63 : n + m ≤ maxLen) (hbytes : (n + m) * bytes ≤ 140737488355328) (hbase : base ≤ w.heap.size) (hm : 0 < m)
    (h : ∀ a' c' w', w'.ownsRow base e size (.slice a' (n + m) c') (n + m) (xs ++ news) → w.grownBy w' v.ownBlock → (∀ g, (Value.slice a' (n + m) c').ownBlock = some g → v.ownBlock = some g ∨ w.heap.size ≤ g) →
      wpList P ops Q rest (a.put o.dst (.slice a' (n + m) c')) w') : wpList P ops Q (o :: rest) a w := by
  have grows : ∀ (ao : Option Addr) (cap : Nat), a.eval s = .slice ao n cap → (ao = none → n = 0 ∧ cap = 0) → (∀ b, ao = some b → ∀ j u, xs[j]? = some u → w.cell? (b.add j) = some u) → cap < n + m → wpList P ops Q (o :: rest) a w := by
    intro ao cap hs' hnone hold hfull
    refine wpList_append_grows w hgd s x t ho e i z size bytes ht hi hz hsize hby hzs hsz ao n cap xs hs' hnone hown.1 hold ad m c news hx hl hnews h1 hfull h63 hbytes fun v' w' ho' hg' => ?_
    obtain ⟨a', c', rfl⟩ := ownsRow_shape ho'
    refine h a' c' w' (ownsRow_base ho' hbase) ⟨hg'.os, hg'.tape, hg'.output, hg'.size, fun k hk _ => hg'.block k hk (by simp)⟩ fun g hg => .inr ?_
    exact (World.ownsRow.lt ho' g hg).1
  have hown0 := hown
  obtain ⟨hlen, hv⟩ := hown
  rcases hv with ⟨rfl, rfl⟩ | ⟨g, cap, cur, rfl, hg, hcur, hnc, hcm, hsz2, hxs⟩
  · exact grows none 0 hs (fun _ => ⟨rfl, rfl⟩) (fun b hb => by cases hb) (by omega)
  · by_cases hfit : n + m ≤ cap
    · exact wpList_append_fits w hgd s x t ho base e i size ht hi hsize g n cap xs hs hown0 ad m c news hx hl hnews h1 hfit fun w' h2 h3 => h _ _ w' h2 h3 fun k hk => .inl hk
    · exact grows (some ⟨g, 0, none⟩) cap hs (fun hb => by cases hb) (fun b hb j u hj => by cases hb; exact World.ownsRow.cells hown0 rfl j u hj) (by omega)
end Go.Proofs.Ythnpbopnpdlmnaa

/- The code of a tree: the plain law, and lists of instructions in the memory. -/
namespace Go.Proofs.Ythnpbopnpdlmnaa
open Go.RowKit

structure Inst where
  op : Int
  set : Cs
  x : Int
  y : Int
deriving DecidableEq
def Inst.cells (i : Inst) : List Value := [.int .i64 i.op, .int .u64 i.set.a, .int .u64 i.set.b, .int .u64 i.set.c, .int .u64 i.set.d, .int .i64 i.x, .int .i64 i.y]
def Inst.of (op : Int) : Inst := ⟨op, Cs.none, 0, 0⟩
def isplit (x y : Int) : Inst := ⟨2, Cs.none, x, y⟩
def ijump (x : Int) : Inst := ⟨3, Cs.none, x, 0⟩

mutual
def Re.csize : Re → Nat
  | .mk p xs => if p.op = 2 ∨ p.op = 7 ∨ p.op = 8 then 1 else if p.op = 4 then Re.asize xs else if p.op = 5 then (if p.lo = 1 then Re.csizes xs + 1 else Re.csizes xs + 1 + (if p.hi < 0 then 1 else 0)) else Re.csizes xs
def Re.csizes : List Re → Nat
  | [] => 0
  | t :: ts => t.csize + Re.csizes ts
def Re.asize : List Re → Nat
  | [] => 0
  | t :: ts => t.csize + (if ts.isEmpty then 0 else 2 + Re.asize ts)
end
mutual
def Re.gen : Re → Nat → List Inst
  | .mk p xs, n => if p.op = 2 then [⟨1, p.set, 0, 0⟩] else if p.op = 7 then [Inst.of 4] else if p.op = 8 then [Inst.of 5] else if p.op = 4 then Re.galt xs n (n + Re.asize xs)
    else if p.op = 5 then (if p.lo = 1 then Re.gens xs n ++ [isplit n (n + Re.csizes xs + 1 : Nat)]
      else isplit (n + 1 : Nat) (n + 1 + Re.csizes xs + (if p.hi < 0 then 1 else 0) : Nat) :: (Re.gens xs (n + 1) ++ (if p.hi < 0 then [ijump n] else [])))
    else Re.gens xs n
def Re.gens : List Re → Nat → List Inst
  | [], _ => []
  | t :: ts, n => t.gen n ++ Re.gens ts (n + t.csize)
def Re.galt : List Re → Nat → Nat → List Inst
  | [], _, _ => []
  | t :: ts, n, fin => if ts.isEmpty then t.gen n else isplit (n + 1 : Nat) (n + t.csize + 2 : Nat) :: (t.gen (n + 1) ++ [ijump fin] ++ Re.galt ts (n + t.csize + 2) fin)
end
mutual
theorem Re.gen_len : ∀ (t : Re) (n : Nat), (t.gen n).length = t.csize
  | .mk p xs, n => by
    have h1 := Re.gens_len xs n
    have h2 := Re.gens_len xs (n + 1)
    have h3 := Re.galt_len xs n (n + Re.asize xs)
    rw [Re.gen, Re.csize]
    by_cases o2 : p.op = 2
    · rw [if_pos o2, if_pos (.inl o2)]; rfl
    rw [if_neg o2]
    by_cases o7 : p.op = 7
    · rw [if_pos o7, if_pos (.inr (.inl o7))]; rfl
    rw [if_neg o7]
    by_cases o8 : p.op = 8
    · rw [if_pos o8, if_pos (.inr (.inr o8))]; rfl
    have o278 : ¬ (p.op = 2 ∨ p.op = 7 ∨ p.op = 8) := by omega
    rw [if_neg o8, if_neg o278]
    by_cases o4 : p.op = 4
    · rw [if_pos o4, if_pos o4]; exact h3
    rw [if_neg o4, if_neg o4]
    by_cases o5 : p.op = 5
    · rw [if_pos o5, if_pos o5]
      by_cases hl : p.lo = 1
      · rw [if_pos hl, if_pos hl]; simp [h1]
      · rw [if_neg hl, if_neg hl]
        by_cases hh : p.hi < 0
        · simp [hh, h2]
        · simp [hh, h2]
    · rw [if_neg o5, if_neg o5]; exact h1
theorem Re.gens_len : ∀ (xs : List Re) (n : Nat), (Re.gens xs n).length = Re.csizes xs
  | [], n => by rw [Re.gens, Re.csizes]; rfl
  | t :: ts, n => by rw [Re.gens, Re.csizes, List.length_append, Re.gen_len t n, Re.gens_len ts _]
theorem Re.galt_len : ∀ (xs : List Re) (n fin : Nat), (Re.galt xs n fin).length = Re.asize xs
  | [], n, fin => by rw [Re.galt, Re.asize]; rfl
  | t :: ts, n, fin => by
    have h1 := Re.gen_len t n
    have h2 := Re.gen_len t (n + 1)
    have h3 := Re.galt_len ts (n + t.csize + 2) fin
    rw [Re.galt, Re.asize]
    by_cases h : ts.isEmpty = true
    · rw [if_pos h, if_pos h]; exact h1
    · rw [if_neg h, if_neg h]; simp [h2, h3]; omega
end

def OwnI (w : World) (base : Nat) (v : Value) (L : List Inst) : Prop := w.ownsRow base 87 7 v L.length (L.flatMap Inst.cells)
theorem flatI_get (L : List Inst) : ∀ (k : Nat) (f : Inst) (i : Nat), L[k]? = some f → i < 7 → (L.flatMap Inst.cells)[k * 7 + i]? = f.cells[i]? := by
  induction L with
  | nil => intro k f i h; simp at h
  | cons a l ih =>
    intro k f i h hi
    cases k with
    | zero =>
      simp at h
      subst h
      rw [List.flatMap_cons, Nat.zero_mul, Nat.zero_add, List.getElem?_append_left (by simp [Inst.cells]; omega)]
    | succ k =>
      rw [List.flatMap_cons, List.getElem?_append_right (by simp [Inst.cells]; omega)]
      have : (k + 1) * 7 + i - a.cells.length = k * 7 + i := by simp [Inst.cells]; omega
      rw [this]
      exact ih k f i (by simpa using h) hi
theorem flatI_x : ∀ (L : List Inst) (k : Nat) (f : Inst) (v : Int), L[k]? = some f → (L.flatMap Inst.cells).set (k * 7 + 5) (.int .i64 v) = (L.set k { f with x := v }).flatMap Inst.cells
  | a :: l, 0, f, v, h => by
    simp at h
    subst h
    rfl
  | a :: l, k + 1, f, v, h => by
    have ih := flatI_x l k f v (by simpa using h)
    rw [List.set_cons_succ, List.flatMap_cons, List.flatMap_cons, ← ih, show (k + 1) * 7 + 5 = (k * 7 + 5) + 7 by omega]
    rfl
theorem flatI_y : ∀ (L : List Inst) (k : Nat) (f : Inst) (v : Int), L[k]? = some f → (L.flatMap Inst.cells).set (k * 7 + 6) (.int .i64 v) = (L.set k { f with y := v }).flatMap Inst.cells
  | a :: l, 0, f, v, h => by
    simp at h
    subst h
    rfl
  | a :: l, k + 1, f, v, h => by
    have ih := flatI_y l k f v (by simpa using h)
    rw [List.set_cons_succ, List.flatMap_cons, List.flatMap_cons, ← ih, show (k + 1) * 7 + 6 = (k * 7 + 6) + 7 by omega]
    rfl
theorem OwnI.nil (w : World) (base : Nat) : OwnI w base (.slice none 0 0) [] := World.ownsRow_nil _ _ _ _
theorem OwnI.lt {w : World} {base : Nat} {v : Value} {L : List Inst} (h : OwnI w base v L) : ∀ g, v.ownBlock = some g → base ≤ g ∧ g < w.heap.size := World.ownsRow.lt h
theorem OwnI.alloc {w : World} {base : Nat} {v : Value} {L : List Inst} (h : OwnI w base v L) (o : Obj) : OwnI (w.alloc o) base v L := World.ownsRow.alloc h o
theorem OwnI.below {w w' : World} {base : Nat} {v : Value} {L : List Inst} (h : OwnI w base v L) (hb : Below w.heap.size w w') : OwnI w' base v L :=
  World.ownsRow.kept h (row := none) ⟨hb.os, hb.tape, hb.output, hb.size, fun j hj _ => hb.block j hj⟩ (by
    cases hv : v.ownBlock with
    | none => exact .inl rfl
    | some g => exact .inr fun e => by cases e)
theorem OwnI.but {w w' : World} {base M : Nat} {v : Value} {L : List Inst} (h : OwnI w base v L) (hb : But [M] w w') (hM : M < base) : OwnI w' base v L :=
  World.ownsRow.kept h (row := some M) ⟨hb.os, hb.tape, hb.output, hb.size, fun j hj hn => hb.block j hj (by simp; intro e; exact hn (by rw [e]))⟩ (by
    cases hv : v.ownBlock with
    | none => exact .inl rfl
    | some g => refine .inr fun e => ?_; cases e; have := h.lt _ hv; omega)
theorem OwnI.form {w : World} {base : Nat} {v : Value} {L : List Inst} (h : OwnI w base v L) : ∃ a c, v = .slice a L.length c := ownsRow_shape h
theorem OwnI.elem {w : World} {base : Nat} {a : Option Addr} {n c : Nat} {L : List Inst} (h : OwnI w base (.slice a n c) L) (k : Nat) (f : Inst) (hk : L[k]? = some f) : n = L.length ∧ ∃ g, a = some ⟨g, 0, none⟩ ∧ base ≤ g ∧ g < w.heap.size ∧ CellsAt w g (k * 7) f.cells ∧ (∀ i, w.frozen? ⟨g, i, none⟩ = false) ∧
    (∀ v, OwnI (w.setCell ⟨g, k * 7 + 5, none⟩ (.int .i64 v)) base (.slice a n c) (L.set k { f with x := v })) ∧ (∀ v, OwnI (w.setCell ⟨g, k * 7 + 6, none⟩ (.int .i64 v)) base (.slice a n c) (L.set k { f with y := v })) := by
  have hkl : k < L.length := (List.getElem?_eq_some_iff.1 hk).1
  obtain ⟨g, cap, hv, hg1, hg2⟩ := World.ownsRow.form h (by omega)
  injection hv with e1 e2 e3
  subst e1 e2 e3
  refine ⟨rfl, g, rfl, hg1, hg2, fun i v hi => ?_, fun i => World.ownsRow.frozenAt h i, fun v => ?_, fun v => ?_⟩
  · have hi7 : i < 7 := by
      rcases Nat.lt_or_ge i 7 with h1 | h1
      · exact h1
      · simp [Inst.cells, h1] at hi
    rw [World.ownsRow.cellAt h (k * 7 + i) (by omega), flatI_get L k f i hk hi7, hi]
  · have h1 := (World.ownsRow.stored h (k * 7 + 5) (.int .i64 v)).1
    rw [flatI_x L k f v hk] at h1
    unfold OwnI
    rw [List.length_set]
    exact h1
  · have h1 := (World.ownsRow.stored h (k * 7 + 6) (.int .i64 v)).1
    rw [flatI_y L k f v hk] at h1
    unfold OwnI
    rw [List.length_set]
    exact h1
end Go.Proofs.Ythnpbopnpdlmnaa

/- The small functions on lengths: what each call returns. -/
namespace Go.Proofs.Ythnpbopnpdlmnaa
open Go.RowKit

def Len (a : Int) : Prop := -1 ≤ a ∧ a ≤ 2147483647

def weightL (n lo hi : Int) : Int :=
  if (lo = 0 ∧ (hi = 1 ∨ hi = -1)) ∨ (lo = 1 ∧ hi = -1) then n + 1 else if hi = 0 then 1 else if lo = 1 ∧ hi = 1 then n else if hi = lo then 1 + lo * n else if hi = -1 then 2 + lo * n else 1 + lo * n + (hi - lo) * (n + 1)

theorem limited_any (n : Int) (w : World) :
    Calls Try.prog 93 #[.int .i64 n] w fun e w' => e = .returned (.int .i64 (min 4097 n)) ∧ w = w' := by
  go_enter Try.func93, Try.ntmps93
  go_wp2
  all_goals (go_ret; exact ⟨ret_int (by omega), rfl⟩)


end Go.Proofs.Ythnpbopnpdlmnaa

/- The list of a set's bytes. -/
namespace Go.Proofs.Ythnpbopnpdlmnaa
open Go.RowKit

end Go.Proofs.Ythnpbopnpdlmnaa

/- What is known of a tree: nullable, lengths, first bytes. The program's cat and alt of two such facts. -/
namespace Go.Proofs.Ythnpbopnpdlmnaa
open Go.RowKit
attribute [local go_sem] gives givesUpon


def Grow (x y : World) : Prop := Below x.heap.size x y
theorem Grow.refl (x : World) : Grow x x := Below.refl _ x
theorem Grow.trans {x y z : World} (h : Grow x y) (k : Grow y z) : Grow x z := Below.trans h (k.mono h.size)
theorem Grow.alloc (x : World) (o : Obj) : Grow x (x.alloc o) := (Below.refl _ x).alloc (Nat.le_refl _) _
theorem Grow.size {x y : World} (h : Grow x y) : x.heap.size ≤ y.heap.size := Below.size h

structure Facts where
  null : Bool
  least : Int
  most : Int
  first : Cs
deriving DecidableEq
structure Facts.wf (f : Facts) : Prop where
  least : Len f.least
  most : Len f.most
  first : f.first.wf
end Go.Proofs.Ythnpbopnpdlmnaa

/- The program's builder: what it keeps; add and split. -/
namespace Go.Proofs.Ythnpbopnpdlmnaa
open Go.RowKit
attribute [local go_sem] gives givesUpon

def setX (L : List Inst) (k : Nat) (v : Int) : List Inst := match L[k]? with | some f => L.set k { f with x := v } | none => L
structure FrB (BB : Nat) (go : Option Nat) (w w' : World) : Prop where
  os : w'.os = w.os
  tape : w'.tape = w.tape
  output : w'.output = w.output
  size : w.heap.size ≤ w'.heap.size
  block : ∀ k, k < w.heap.size → k ≠ BB → go ≠ some k → w'.heap[k]? = w.heap[k]?
def GoTo (w : World) (go go' : Option Nat) : Prop := go' = go ∨ ∃ g, go' = some g ∧ w.heap.size ≤ g
theorem FrB.refl (BB : Nat) (go : Option Nat) (w : World) : FrB BB go w w := ⟨rfl, rfl, rfl, Nat.le_refl _, fun _ _ _ _ => rfl⟩
theorem FrB.trans {BB : Nat} {go go' : Option Nat} {a b c : World} (h : FrB BB go a b) (hg : GoTo a go go') (k : FrB BB go' b c) : FrB BB go a c :=
  ⟨k.os.trans h.os, k.tape.trans h.tape, k.output.trans h.output, Nat.le_trans h.size k.size, fun j hj h1 h2 => (k.block j (Nat.lt_of_lt_of_le hj h.size) h1 (by
    rcases hg with hg | ⟨g, hg, hge⟩
    · rw [hg]; exact h2
    · rw [hg]; intro e; injection e with e; omega)).trans (h.block j hj h1 h2)⟩
theorem GoTo.trans {a b : World} {g1 g2 g3 : Option Nat} (h : GoTo a g1 g2) (hs : a.heap.size ≤ b.heap.size) (k : GoTo b g2 g3) : GoTo a g1 g3 := by
  rcases k with k | ⟨g, k, hk⟩
  · rw [k]; exact h
  · exact .inr ⟨g, k, Nat.le_trans hs hk⟩
theorem FrB.of_below {BB : Nat} {go : Option Nat} {w w' : World} (h : Below w.heap.size w w') : FrB BB go w w' := ⟨h.os, h.tape, h.output, h.size, fun k hk _ _ => h.block k hk⟩
theorem FrB.below {BB n : Nat} {go : Option Nat} {w w' : World} (h : FrB BB go w w') (hn : n ≤ w.heap.size) (h1 : n ≤ BB) (h2 : ∀ g, go = some g → n ≤ g) : Below n w w' :=
  ⟨h.os, h.tape, h.output, Nat.le_trans hn h.size |> fun _ => h.size, fun k hk => h.block k (by omega) (by omega) (fun e => by have := h2 k e; omega)⟩
theorem Row.c2 {w : World} {B : Nat} {a b : Value} {T : TypeId} (h : Row w B [a, b] T) : (w.cell? ⟨B, 0, none⟩ = some a ∧ w.cell? ⟨B, 1, none⟩ = some b) ∧ (w.frozen? ⟨B, 0, none⟩ = false ∧ w.frozen? ⟨B, 1, none⟩ = false) := ⟨⟨h.cell 0, h.cell 1⟩, h.free 0, h.free 1⟩
theorem info_inst : (Try.prog.info? 87).map (fun i => (i.zero, i.size, i.bytes)) = some (some (.agg #[.int .i64 0, .int .u64 0, .int .u64 0, .int .u64 0, .int .u64 0, .int .i64 0, .int .i64 0]), 7, 56) := by kernel_rfl

end Go.Proofs.Ythnpbopnpdlmnaa

/- The program's builder: a field of an instruction is set; split. -/
namespace Go.Proofs.Ythnpbopnpdlmnaa
open Go.RowKit
attribute [local go_sem] gives givesUpon

theorem CellsAt.c7i {w : World} {b o : Nat} {f : Inst} (h : CellsAt w b o f.cells) : w.cell? ⟨b, o, none⟩ = some (.int .i64 f.op) ∧ w.cell? ⟨b, o + 1, none⟩ = some (.int .u64 f.set.a) ∧ w.cell? ⟨b, o + 2, none⟩ = some (.int .u64 f.set.b) ∧ w.cell? ⟨b, o + 3, none⟩ = some (.int .u64 f.set.c) ∧ w.cell? ⟨b, o + 4, none⟩ = some (.int .u64 f.set.d) ∧ w.cell? ⟨b, o + 5, none⟩ = some (.int .i64 f.x) ∧ w.cell? ⟨b, o + 6, none⟩ = some (.int .i64 f.y) :=
  ⟨h 0 _ rfl, h 1 _ rfl, h 2 _ rfl, h 3 _ rfl, h 4 _ rfl, h 5 _ rfl, h 6 _ rfl⟩

end Go.Proofs.Ythnpbopnpdlmnaa
