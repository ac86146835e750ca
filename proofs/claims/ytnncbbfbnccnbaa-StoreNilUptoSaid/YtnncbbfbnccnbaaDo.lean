/- The law's do: a call of a method. Written by gen_do.py. -/
import Derived.Test.YtnncbbfbnccnbaaGood
import Derived.Test.YtnncbbfbnccnbaaSync
import Derived.Test.YtnncbbfbnccnbaaRestart
import Derived.Test.YtnncbbfbnccnbaaList
import Derived.Laws.Rows
namespace Go.Proofs.Ytnncbbfbnccnbaa
open Go.RowKit
attribute [local go_sem] gives givesUpon

def CallD.cells (c : CallD) : List Value := [.int .i64 c.op, .string c.name, .string c.text, .int .i64 c.start, .int .i64 c.n, .int .u64 c.kept]
/-- What a call leaves. -/
def DPost (base B : Nat) (s : St) (res : (List UInt8 × Int) × Ab) (w : World) (e : Ending) (w' : World) : Prop :=
  ∃ s', e = .returned (.agg #[.string ⟨res.1.1.toArray⟩, .int .i64 res.1.2]) ∧ s'.ab = res.2 ∧ Step base B s s' w w'
/-- A call within its bounds. -/
structure CallD.fit (c : CallD) : Prop where
  name : c.name.size ≤ 300
  text : c.text.size ≤ 300
  start : c.start ≤ 9223372036854775807
  n : c.n ≤ 9223372036854775807
theorem But.row {S : List Nat} {w w' : World} {b : Nat} {cs : List Value} {T : TypeId} (h : But S w w') (r : Row w b cs T) (hb : ¬ b ∈ S) : Row w' b cs T := by
  have hl := r.lt
  unfold Row at r ⊢
  rw [h.block b hl hb]; exact r
theorem doEnd {base B : Nat} {s s' : St} {w w1 : World} (h : Step base B s s' w w1) (hno : ¬ (w.heap.size + 1) ∈ s'.own B) (u v : Value) :
    Step base B s s' w ((w1.setCell ⟨w.heap.size + 1, 0, none⟩ u).setCell ⟨w.heap.size + 1, 1, none⟩ v) := by
  refine ⟨h.at'.kept fun k hk => ?_, (h.but.setCell (.inr (by simp)) u).setCell (.inr (by simp)) v, h.own⟩
  have hne : k ≠ w.heap.size + 1 := fun e => hno (by rw [← e]; exact hk)
  rw [Below.heap_setCell _ _ _ _ hne, Below.heap_setCell _ _ _ _ hne]
theorem Restart2_any (w : World) (B base : Nat) (s : St) (kept : Nat) (h : s.At w B base) (ok : s.ab.ok) (hl : s.ents.length ≤ 1000000) (hbase : base ≤ w.heap.size) :
    Calls Try.prog 25 #[.pointer (some ⟨B, 0, none⟩), .int .u64 kept] w (RsPost base B s (s.ab.restart kept) w) := by
  rcases Nat.eq_zero_or_pos s.ents.length with h0 | h0
  · exact Restart0_any w B base s kept h ok (List.eq_nil_of_length_eq_zero h0)
  · exact Restart_any w B base s kept h ok ⟨h0, hl⟩ hbase
set_option maxRecDepth 100000 in
set_option maxHeartbeats 4000000 in
theorem do_Create (w : World) (B base : Nat) (s : St) (op : Int) (nm tx : ByteArray) (st n : Int) (kept : Nat) (h : s.At w B base) (ok : s.ab.ok) (_hlen : s.ents.length ≤ 64) (hnm : nm.size ≤ 300) (_htx : tx.size ≤ 300) (_hst : st ≤ 9223372036854775807) (_hnn : n ≤ 9223372036854775807) (hbase : base ≤ w.heap.size) (hop : op = 0) :
    Calls Try.prog 16 #[.pointer (some ⟨B, 0, none⟩), .agg #[.int .i64 op, .string nm, .string tx, .int .i64 st, .int .i64 n, .int .u64 kept]] w (DPost base B s (lift (s.ab.create nm.data.toList)) w) := by
  have HC := hid True.intro
  subst hop
  go_enter Try.func16, Try.ntmps16
  go_upto_region 1 with fail
  have HS0 : Hid (Step base B s s w ((w.alloc (.cells #[.int .i64 0, .string nm, .string tx, .int .i64 st, .int .i64 n, .int .u64 kept] 41)).alloc (.cells #[.string ⟨#[]⟩, .int .i64 0] 37))) := (Step.refl h).more ((Grow.alloc w _).trans (Grow.alloc _ _)) (Nat.le_refl _)
  have r3 : Row ((w.alloc (.cells #[.int .i64 0, .string nm, .string tx, .int .i64 st, .int .i64 n, .int .u64 kept] 41)).alloc (.cells #[.string ⟨#[]⟩, .int .i64 0] 37)) w.heap.size [.int .i64 0, .string nm, .string tx, .int .i64 st, .int .i64 n, .int .u64 kept] 41 := (Row.at w [.int .i64 0, .string nm, .string tx, .int .i64 st, .int .i64 n, .int .u64 kept] _).below (Grow.alloc _ _) (Row.at w [.int .i64 0, .string nm, .string tx, .int .i64 st, .int .i64 n, .int .u64 kept] _).lt
  have r4 : Row ((w.alloc (.cells #[.int .i64 0, .string nm, .string tx, .int .i64 st, .int .i64 n, .int .u64 kept] 41)).alloc (.cells #[.string ⟨#[]⟩, .int .i64 0] 37)) (w.heap.size + 1) [.string ⟨#[]⟩, .int .i64 0] 37 := Row.new (cs := [.string ⟨#[]⟩, .int .i64 0]) (by simp)
  have HX := hid True.intro
  generalize ((w.alloc (.cells #[.int .i64 0, .string nm, .string tx, .int .i64 st, .int .i64 n, .int .u64 kept] 41)).alloc (.cells #[.string ⟨#[]⟩, .int .i64 0] 37)) = x at *
  have q3 := Row.six r3
  have z3 := r3.lt
  have HR4 := hid r4
  have hne : ¬ (w.heap.size + 1) ∈ s.own B := fun hk => by have := (h.blocks _ hk).2; omega
  have HNE := hid hne
  clear r3 r4 hne
  go_wp2_with fail
  refine (Create_any x B base s nm HS0.out.at' ok (by omega) (by have := HS0.out.but.size; omega)).mono ?_
  rintro e w1 ⟨s', rfl, hab, hs1⟩
  have hs2 := HS0.out.trans hs1
  have r4 := hs1.but.row HR4.out HNE.out
  have q4 := Row.two r4
  have z4 := r4.lt
  have HS := hid hs2
  have hno : ¬ (w.heap.size + 1) ∈ s'.own B := fun hk => by
    rcases hs1.own _ hk with h1 | h1
    · exact HNE.out h1
    · have := HR4.out.lt; omega
  have HNO := hid hno
  clear hno
  have HR5 := hid r4
  have HAB := hid hab
  clear hab
  clear hs1 hs2 r4 q3 z3 HR4 HS0
  go_wp2_with fail
  (try simp only [Exit.inBlock, Exit.then])
  refine bodyPost_ret (results_cell_row rfl _ _ (w.heap.size + 1) _ _ _ _ rfl (show _ = some (Obj.cells (List.toArray _) _) from (HR5.out.set 0 _).set 1 _) Try.underlying37 rfl (by kernel_rfl)) rfl ?_
  exact ⟨s', rfl, HAB.out, doEnd HS.out HNO.out _ _⟩
set_option maxRecDepth 100000 in
set_option maxHeartbeats 4000000 in
theorem do_Append (w : World) (B base : Nat) (s : St) (op : Int) (nm tx : ByteArray) (st n : Int) (kept : Nat) (h : s.At w B base) (ok : s.ab.ok) (_hlen : s.ents.length ≤ 64) (hnm : nm.size ≤ 300) (htx : tx.size ≤ 300) (_hst : st ≤ 9223372036854775807) (_hnn : n ≤ 9223372036854775807) (hbase : base ≤ w.heap.size) (hop : op = 1) :
    Calls Try.prog 16 #[.pointer (some ⟨B, 0, none⟩), .agg #[.int .i64 op, .string nm, .string tx, .int .i64 st, .int .i64 n, .int .u64 kept]] w (DPost base B s (lift (s.ab.append nm.data.toList tx.data.toList)) w) := by
  have HC := hid True.intro
  subst hop
  go_enter Try.func16, Try.ntmps16
  go_upto_region 1 with fail
  have HS0 : Hid (Step base B s s w ((w.alloc (.cells #[.int .i64 1, .string nm, .string tx, .int .i64 st, .int .i64 n, .int .u64 kept] 41)).alloc (.cells #[.string ⟨#[]⟩, .int .i64 0] 37))) := (Step.refl h).more ((Grow.alloc w _).trans (Grow.alloc _ _)) (Nat.le_refl _)
  have r3 : Row ((w.alloc (.cells #[.int .i64 1, .string nm, .string tx, .int .i64 st, .int .i64 n, .int .u64 kept] 41)).alloc (.cells #[.string ⟨#[]⟩, .int .i64 0] 37)) w.heap.size [.int .i64 1, .string nm, .string tx, .int .i64 st, .int .i64 n, .int .u64 kept] 41 := (Row.at w [.int .i64 1, .string nm, .string tx, .int .i64 st, .int .i64 n, .int .u64 kept] _).below (Grow.alloc _ _) (Row.at w [.int .i64 1, .string nm, .string tx, .int .i64 st, .int .i64 n, .int .u64 kept] _).lt
  have r4 : Row ((w.alloc (.cells #[.int .i64 1, .string nm, .string tx, .int .i64 st, .int .i64 n, .int .u64 kept] 41)).alloc (.cells #[.string ⟨#[]⟩, .int .i64 0] 37)) (w.heap.size + 1) [.string ⟨#[]⟩, .int .i64 0] 37 := Row.new (cs := [.string ⟨#[]⟩, .int .i64 0]) (by simp)
  have HX := hid True.intro
  generalize ((w.alloc (.cells #[.int .i64 1, .string nm, .string tx, .int .i64 st, .int .i64 n, .int .u64 kept] 41)).alloc (.cells #[.string ⟨#[]⟩, .int .i64 0] 37)) = x at *
  have q3 := Row.six r3
  have z3 := r3.lt
  have HR4 := hid r4
  have hne : ¬ (w.heap.size + 1) ∈ s.own B := fun hk => by have := (h.blocks _ hk).2; omega
  have HNE := hid hne
  clear r3 r4 hne
  go_wp2_with fail
  refine (Append_any x B base s nm tx HS0.out.at' ok (by unfold maxLen; omega) (by omega) (by have := HS0.out.but.size; omega)).mono ?_
  rintro e w1 ⟨s', rfl, hab, hs1⟩
  have hs2 := HS0.out.trans hs1
  have r4 := hs1.but.row HR4.out HNE.out
  have q4 := Row.two r4
  have z4 := r4.lt
  have HS := hid hs2
  have hno : ¬ (w.heap.size + 1) ∈ s'.own B := fun hk => by
    rcases hs1.own _ hk with h1 | h1
    · exact HNE.out h1
    · have := HR4.out.lt; omega
  have HNO := hid hno
  clear hno
  have HR5 := hid r4
  have HAB := hid hab
  clear hab
  clear hs1 hs2 r4 q3 z3 HR4 HS0
  go_wp2_with fail
  (try simp only [Exit.inBlock, Exit.then])
  refine bodyPost_ret (results_cell_row rfl _ _ (w.heap.size + 1) _ _ _ _ rfl (show _ = some (Obj.cells (List.toArray _) _) from (HR5.out.set 0 _).set 1 _) Try.underlying37 rfl (by kernel_rfl)) rfl ?_
  exact ⟨s', rfl, HAB.out, doEnd HS.out HNO.out _ _⟩
set_option maxRecDepth 100000 in
set_option maxHeartbeats 4000000 in
theorem do_Read (w : World) (B base : Nat) (s : St) (op : Int) (nm tx : ByteArray) (st n : Int) (kept : Nat) (h : s.At w B base) (ok : s.ab.ok) (_hlen : s.ents.length ≤ 64) (hnm : nm.size ≤ 300) (_htx : tx.size ≤ 300) (hst : st ≤ 9223372036854775807) (hnn : n ≤ 9223372036854775807) (hbase : base ≤ w.heap.size) (hop : op = 2) :
    Calls Try.prog 16 #[.pointer (some ⟨B, 0, none⟩), .agg #[.int .i64 op, .string nm, .string tx, .int .i64 st, .int .i64 n, .int .u64 kept]] w (DPost base B s (((s.ab.read nm.data.toList st n).1, (s.ab.read nm.data.toList st n).2.1), (s.ab.read nm.data.toList st n).2.2) w) := by
  have HC := hid True.intro
  subst hop
  go_enter Try.func16, Try.ntmps16
  go_upto_region 1 with fail
  have HS0 : Hid (Step base B s s w ((w.alloc (.cells #[.int .i64 2, .string nm, .string tx, .int .i64 st, .int .i64 n, .int .u64 kept] 41)).alloc (.cells #[.string ⟨#[]⟩, .int .i64 0] 37))) := (Step.refl h).more ((Grow.alloc w _).trans (Grow.alloc _ _)) (Nat.le_refl _)
  have r3 : Row ((w.alloc (.cells #[.int .i64 2, .string nm, .string tx, .int .i64 st, .int .i64 n, .int .u64 kept] 41)).alloc (.cells #[.string ⟨#[]⟩, .int .i64 0] 37)) w.heap.size [.int .i64 2, .string nm, .string tx, .int .i64 st, .int .i64 n, .int .u64 kept] 41 := (Row.at w [.int .i64 2, .string nm, .string tx, .int .i64 st, .int .i64 n, .int .u64 kept] _).below (Grow.alloc _ _) (Row.at w [.int .i64 2, .string nm, .string tx, .int .i64 st, .int .i64 n, .int .u64 kept] _).lt
  have r4 : Row ((w.alloc (.cells #[.int .i64 2, .string nm, .string tx, .int .i64 st, .int .i64 n, .int .u64 kept] 41)).alloc (.cells #[.string ⟨#[]⟩, .int .i64 0] 37)) (w.heap.size + 1) [.string ⟨#[]⟩, .int .i64 0] 37 := Row.new (cs := [.string ⟨#[]⟩, .int .i64 0]) (by simp)
  have HX := hid True.intro
  generalize ((w.alloc (.cells #[.int .i64 2, .string nm, .string tx, .int .i64 st, .int .i64 n, .int .u64 kept] 41)).alloc (.cells #[.string ⟨#[]⟩, .int .i64 0] 37)) = x at *
  have q3 := Row.six r3
  have z3 := r3.lt
  have HR4 := hid r4
  have hne : ¬ (w.heap.size + 1) ∈ s.own B := fun hk => by have := (h.blocks _ hk).2; omega
  have HNE := hid hne
  clear r3 r4 hne
  go_wp2_with fail
  refine (Read_any x B base s nm st n hst hnn HS0.out.at' ok (by unfold maxLen; omega) (by have := HS0.out.but.size; omega)).mono ?_
  rintro e w1 ⟨s', rfl, hab, hs1⟩
  have hs2 := HS0.out.trans hs1
  have r4 := hs1.but.row HR4.out HNE.out
  have q4 := Row.two r4
  have z4 := r4.lt
  have HS := hid hs2
  have hno : ¬ (w.heap.size + 1) ∈ s'.own B := fun hk => by
    rcases hs1.own _ hk with h1 | h1
    · exact HNE.out h1
    · have := HR4.out.lt; omega
  have HNO := hid hno
  clear hno
  have HR5 := hid r4
  have HAB := hid hab
  clear hab
  clear hs1 hs2 r4 q3 z3 HR4 HS0
  go_wp2_with fail
  (try simp only [Exit.inBlock, Exit.then])
  refine bodyPost_ret (results_cell_row rfl _ _ (w.heap.size + 1) _ _ _ _ rfl (show _ = some (Obj.cells (List.toArray _) _) from (HR5.out.set 0 _).set 1 _) Try.underlying37 rfl (by kernel_rfl)) rfl ?_
  exact ⟨s', rfl, HAB.out, doEnd HS.out HNO.out _ _⟩
set_option maxRecDepth 100000 in
set_option maxHeartbeats 4000000 in
theorem do_Sync (w : World) (B base : Nat) (s : St) (op : Int) (nm tx : ByteArray) (st n : Int) (kept : Nat) (h : s.At w B base) (ok : s.ab.ok) (_hlen : s.ents.length ≤ 64) (hnm : nm.size ≤ 300) (_htx : tx.size ≤ 300) (_hst : st ≤ 9223372036854775807) (_hnn : n ≤ 9223372036854775807) (hbase : base ≤ w.heap.size) (hop : op = 3) :
    Calls Try.prog 16 #[.pointer (some ⟨B, 0, none⟩), .agg #[.int .i64 op, .string nm, .string tx, .int .i64 st, .int .i64 n, .int .u64 kept]] w (DPost base B s (lift (s.ab.sync nm.data.toList)) w) := by
  have HC := hid True.intro
  subst hop
  go_enter Try.func16, Try.ntmps16
  go_upto_region 1 with fail
  have HS0 : Hid (Step base B s s w ((w.alloc (.cells #[.int .i64 3, .string nm, .string tx, .int .i64 st, .int .i64 n, .int .u64 kept] 41)).alloc (.cells #[.string ⟨#[]⟩, .int .i64 0] 37))) := (Step.refl h).more ((Grow.alloc w _).trans (Grow.alloc _ _)) (Nat.le_refl _)
  have r3 : Row ((w.alloc (.cells #[.int .i64 3, .string nm, .string tx, .int .i64 st, .int .i64 n, .int .u64 kept] 41)).alloc (.cells #[.string ⟨#[]⟩, .int .i64 0] 37)) w.heap.size [.int .i64 3, .string nm, .string tx, .int .i64 st, .int .i64 n, .int .u64 kept] 41 := (Row.at w [.int .i64 3, .string nm, .string tx, .int .i64 st, .int .i64 n, .int .u64 kept] _).below (Grow.alloc _ _) (Row.at w [.int .i64 3, .string nm, .string tx, .int .i64 st, .int .i64 n, .int .u64 kept] _).lt
  have r4 : Row ((w.alloc (.cells #[.int .i64 3, .string nm, .string tx, .int .i64 st, .int .i64 n, .int .u64 kept] 41)).alloc (.cells #[.string ⟨#[]⟩, .int .i64 0] 37)) (w.heap.size + 1) [.string ⟨#[]⟩, .int .i64 0] 37 := Row.new (cs := [.string ⟨#[]⟩, .int .i64 0]) (by simp)
  have HX := hid True.intro
  generalize ((w.alloc (.cells #[.int .i64 3, .string nm, .string tx, .int .i64 st, .int .i64 n, .int .u64 kept] 41)).alloc (.cells #[.string ⟨#[]⟩, .int .i64 0] 37)) = x at *
  have q3 := Row.six r3
  have z3 := r3.lt
  have HR4 := hid r4
  have hne : ¬ (w.heap.size + 1) ∈ s.own B := fun hk => by have := (h.blocks _ hk).2; omega
  have HNE := hid hne
  clear r3 r4 hne
  go_wp2_with fail
  refine (Sync_any x B base s nm HS0.out.at' ok (by unfold maxLen; omega) (by have := HS0.out.but.size; omega)).mono ?_
  rintro e w1 ⟨s', rfl, hab, hs1⟩
  have hs2 := HS0.out.trans hs1
  have r4 := hs1.but.row HR4.out HNE.out
  have q4 := Row.two r4
  have z4 := r4.lt
  have HS := hid hs2
  have hno : ¬ (w.heap.size + 1) ∈ s'.own B := fun hk => by
    rcases hs1.own _ hk with h1 | h1
    · exact HNE.out h1
    · have := HR4.out.lt; omega
  have HNO := hid hno
  clear hno
  have HR5 := hid r4
  have HAB := hid hab
  clear hab
  clear hs1 hs2 r4 q3 z3 HR4 HS0
  go_wp2_with fail
  (try simp only [Exit.inBlock, Exit.then])
  refine bodyPost_ret (results_cell_row rfl _ _ (w.heap.size + 1) _ _ _ _ rfl (show _ = some (Obj.cells (List.toArray _) _) from (HR5.out.set 0 _).set 1 _) Try.underlying37 rfl (by kernel_rfl)) rfl ?_
  exact ⟨s', rfl, HAB.out, doEnd HS.out HNO.out _ _⟩
set_option maxRecDepth 100000 in
set_option maxHeartbeats 4000000 in
theorem do_Rename (w : World) (B base : Nat) (s : St) (op : Int) (nm tx : ByteArray) (st n : Int) (kept : Nat) (h : s.At w B base) (ok : s.ab.ok) (hlen : s.ents.length ≤ 64) (hnm : nm.size ≤ 300) (htx : tx.size ≤ 300) (_hst : st ≤ 9223372036854775807) (_hnn : n ≤ 9223372036854775807) (hbase : base ≤ w.heap.size) (hop : op = 4) :
    Calls Try.prog 16 #[.pointer (some ⟨B, 0, none⟩), .agg #[.int .i64 op, .string nm, .string tx, .int .i64 st, .int .i64 n, .int .u64 kept]] w (DPost base B s (lift (s.ab.rename nm.data.toList tx.data.toList)) w) := by
  have HC := hid True.intro
  subst hop
  go_enter Try.func16, Try.ntmps16
  go_upto_region 1 with fail
  have HS0 : Hid (Step base B s s w ((w.alloc (.cells #[.int .i64 4, .string nm, .string tx, .int .i64 st, .int .i64 n, .int .u64 kept] 41)).alloc (.cells #[.string ⟨#[]⟩, .int .i64 0] 37))) := (Step.refl h).more ((Grow.alloc w _).trans (Grow.alloc _ _)) (Nat.le_refl _)
  have r3 : Row ((w.alloc (.cells #[.int .i64 4, .string nm, .string tx, .int .i64 st, .int .i64 n, .int .u64 kept] 41)).alloc (.cells #[.string ⟨#[]⟩, .int .i64 0] 37)) w.heap.size [.int .i64 4, .string nm, .string tx, .int .i64 st, .int .i64 n, .int .u64 kept] 41 := (Row.at w [.int .i64 4, .string nm, .string tx, .int .i64 st, .int .i64 n, .int .u64 kept] _).below (Grow.alloc _ _) (Row.at w [.int .i64 4, .string nm, .string tx, .int .i64 st, .int .i64 n, .int .u64 kept] _).lt
  have r4 : Row ((w.alloc (.cells #[.int .i64 4, .string nm, .string tx, .int .i64 st, .int .i64 n, .int .u64 kept] 41)).alloc (.cells #[.string ⟨#[]⟩, .int .i64 0] 37)) (w.heap.size + 1) [.string ⟨#[]⟩, .int .i64 0] 37 := Row.new (cs := [.string ⟨#[]⟩, .int .i64 0]) (by simp)
  have HX := hid True.intro
  generalize ((w.alloc (.cells #[.int .i64 4, .string nm, .string tx, .int .i64 st, .int .i64 n, .int .u64 kept] 41)).alloc (.cells #[.string ⟨#[]⟩, .int .i64 0] 37)) = x at *
  have q3 := Row.six r3
  have z3 := r3.lt
  have HR4 := hid r4
  have hne : ¬ (w.heap.size + 1) ∈ s.own B := fun hk => by have := (h.blocks _ hk).2; omega
  have HNE := hid hne
  clear r3 r4 hne
  go_wp2_with fail
  refine (Rename_any x B base s nm tx (by omega) (by omega) HS0.out.at' ok (by unfold maxLen; omega) (by have := HS0.out.but.size; omega)).mono ?_
  rintro e w1 ⟨s', rfl, hab, hs1⟩
  have hs2 := HS0.out.trans hs1
  have r4 := hs1.but.row HR4.out HNE.out
  have q4 := Row.two r4
  have z4 := r4.lt
  have HS := hid hs2
  have hno : ¬ (w.heap.size + 1) ∈ s'.own B := fun hk => by
    rcases hs1.own _ hk with h1 | h1
    · exact HNE.out h1
    · have := HR4.out.lt; omega
  have HNO := hid hno
  clear hno
  have HR5 := hid r4
  have HAB := hid hab
  clear hab
  clear hs1 hs2 r4 q3 z3 HR4 HS0
  go_wp2_with fail
  (try simp only [Exit.inBlock, Exit.then])
  refine bodyPost_ret (results_cell_row rfl _ _ (w.heap.size + 1) _ _ _ _ rfl (show _ = some (Obj.cells (List.toArray _) _) from (HR5.out.set 0 _).set 1 _) Try.underlying37 rfl (by kernel_rfl)) rfl ?_
  exact ⟨s', rfl, HAB.out, doEnd HS.out HNO.out _ _⟩
set_option maxRecDepth 100000 in
set_option maxHeartbeats 4000000 in
theorem do_Remove (w : World) (B base : Nat) (s : St) (op : Int) (nm tx : ByteArray) (st n : Int) (kept : Nat) (h : s.At w B base) (ok : s.ab.ok) (_hlen : s.ents.length ≤ 64) (hnm : nm.size ≤ 300) (_htx : tx.size ≤ 300) (_hst : st ≤ 9223372036854775807) (_hnn : n ≤ 9223372036854775807) (hbase : base ≤ w.heap.size) (hop : op = 5) :
    Calls Try.prog 16 #[.pointer (some ⟨B, 0, none⟩), .agg #[.int .i64 op, .string nm, .string tx, .int .i64 st, .int .i64 n, .int .u64 kept]] w (DPost base B s (lift (s.ab.remove nm.data.toList)) w) := by
  have HC := hid True.intro
  subst hop
  go_enter Try.func16, Try.ntmps16
  go_upto_region 1 with fail
  have HS0 : Hid (Step base B s s w ((w.alloc (.cells #[.int .i64 5, .string nm, .string tx, .int .i64 st, .int .i64 n, .int .u64 kept] 41)).alloc (.cells #[.string ⟨#[]⟩, .int .i64 0] 37))) := (Step.refl h).more ((Grow.alloc w _).trans (Grow.alloc _ _)) (Nat.le_refl _)
  have r3 : Row ((w.alloc (.cells #[.int .i64 5, .string nm, .string tx, .int .i64 st, .int .i64 n, .int .u64 kept] 41)).alloc (.cells #[.string ⟨#[]⟩, .int .i64 0] 37)) w.heap.size [.int .i64 5, .string nm, .string tx, .int .i64 st, .int .i64 n, .int .u64 kept] 41 := (Row.at w [.int .i64 5, .string nm, .string tx, .int .i64 st, .int .i64 n, .int .u64 kept] _).below (Grow.alloc _ _) (Row.at w [.int .i64 5, .string nm, .string tx, .int .i64 st, .int .i64 n, .int .u64 kept] _).lt
  have r4 : Row ((w.alloc (.cells #[.int .i64 5, .string nm, .string tx, .int .i64 st, .int .i64 n, .int .u64 kept] 41)).alloc (.cells #[.string ⟨#[]⟩, .int .i64 0] 37)) (w.heap.size + 1) [.string ⟨#[]⟩, .int .i64 0] 37 := Row.new (cs := [.string ⟨#[]⟩, .int .i64 0]) (by simp)
  have HX := hid True.intro
  generalize ((w.alloc (.cells #[.int .i64 5, .string nm, .string tx, .int .i64 st, .int .i64 n, .int .u64 kept] 41)).alloc (.cells #[.string ⟨#[]⟩, .int .i64 0] 37)) = x at *
  have q3 := Row.six r3
  have z3 := r3.lt
  have HR4 := hid r4
  have hne : ¬ (w.heap.size + 1) ∈ s.own B := fun hk => by have := (h.blocks _ hk).2; omega
  have HNE := hid hne
  clear r3 r4 hne
  go_wp2_with fail
  refine (Remove_any x B base s nm HS0.out.at' ok (by unfold maxLen; omega) (by have := HS0.out.but.size; omega)).mono ?_
  rintro e w1 ⟨s', rfl, hab, hs1⟩
  have hs2 := HS0.out.trans hs1
  have r4 := hs1.but.row HR4.out HNE.out
  have q4 := Row.two r4
  have z4 := r4.lt
  have HS := hid hs2
  have hno : ¬ (w.heap.size + 1) ∈ s'.own B := fun hk => by
    rcases hs1.own _ hk with h1 | h1
    · exact HNE.out h1
    · have := HR4.out.lt; omega
  have HNO := hid hno
  clear hno
  have HR5 := hid r4
  have HAB := hid hab
  clear hab
  clear hs1 hs2 r4 q3 z3 HR4 HS0
  go_wp2_with fail
  (try simp only [Exit.inBlock, Exit.then])
  refine bodyPost_ret (results_cell_row rfl _ _ (w.heap.size + 1) _ _ _ _ rfl (show _ = some (Obj.cells (List.toArray _) _) from (HR5.out.set 0 _).set 1 _) Try.underlying37 rfl (by kernel_rfl)) rfl ?_
  exact ⟨s', rfl, HAB.out, doEnd HS.out HNO.out _ _⟩
set_option maxRecDepth 100000 in
set_option maxHeartbeats 4000000 in
theorem do_FailAfter (w : World) (B base : Nat) (s : St) (op : Int) (nm tx : ByteArray) (st n : Int) (kept : Nat) (h : s.At w B base) (_ok : s.ab.ok) (_hlen : s.ents.length ≤ 64) (_hnm : nm.size ≤ 300) (_htx : tx.size ≤ 300) (_hst : st ≤ 9223372036854775807) (_hnn : n ≤ 9223372036854775807) (_hbase : base ≤ w.heap.size) (hop : op = 6) :
    Calls Try.prog 16 #[.pointer (some ⟨B, 0, none⟩), .agg #[.int .i64 op, .string nm, .string tx, .int .i64 st, .int .i64 n, .int .u64 kept]] w (DPost base B s (([], 0), s.ab.fail n) w) := by
  have HC := hid True.intro
  subst hop
  go_enter Try.func16, Try.ntmps16
  go_upto_region 1 with fail
  have HS0 : Hid (Step base B s s w ((w.alloc (.cells #[.int .i64 6, .string nm, .string tx, .int .i64 st, .int .i64 n, .int .u64 kept] 41)).alloc (.cells #[.string ⟨#[]⟩, .int .i64 0] 37))) := (Step.refl h).more ((Grow.alloc w _).trans (Grow.alloc _ _)) (Nat.le_refl _)
  have r3 : Row ((w.alloc (.cells #[.int .i64 6, .string nm, .string tx, .int .i64 st, .int .i64 n, .int .u64 kept] 41)).alloc (.cells #[.string ⟨#[]⟩, .int .i64 0] 37)) w.heap.size [.int .i64 6, .string nm, .string tx, .int .i64 st, .int .i64 n, .int .u64 kept] 41 := (Row.at w [.int .i64 6, .string nm, .string tx, .int .i64 st, .int .i64 n, .int .u64 kept] _).below (Grow.alloc _ _) (Row.at w [.int .i64 6, .string nm, .string tx, .int .i64 st, .int .i64 n, .int .u64 kept] _).lt
  have r4 : Row ((w.alloc (.cells #[.int .i64 6, .string nm, .string tx, .int .i64 st, .int .i64 n, .int .u64 kept] 41)).alloc (.cells #[.string ⟨#[]⟩, .int .i64 0] 37)) (w.heap.size + 1) [.string ⟨#[]⟩, .int .i64 0] 37 := Row.new (cs := [.string ⟨#[]⟩, .int .i64 0]) (by simp)
  have HX := hid True.intro
  generalize ((w.alloc (.cells #[.int .i64 6, .string nm, .string tx, .int .i64 st, .int .i64 n, .int .u64 kept] 41)).alloc (.cells #[.string ⟨#[]⟩, .int .i64 0] 37)) = x at *
  have q3 := Row.six r3
  have z3 := r3.lt
  have HR4 := hid r4
  have hne : ¬ (w.heap.size + 1) ∈ s.own B := fun hk => by have := (h.blocks _ hk).2; omega
  have HNE := hid hne
  clear r3 r4 hne
  go_wp2_with fail
  refine (FailAfter_any x B base s n HS0.out.at').mono ?_
  rintro e w1 ⟨rfl, hs1⟩
  generalize hsd : (if s.crash = true then s else { s with count := max n 0 } : St) = s' at hs1
  have hab : s'.ab = s.ab.fail n := by rw [← hsd]; unfold Ab.fail; show _ = if s.crash = true then _ else _; split <;> rfl
  have HAB := hid hab
  clear hab hsd
  have hs2 := HS0.out.trans hs1
  have r4 := hs1.but.row HR4.out HNE.out
  have q4 := Row.two r4
  have z4 := r4.lt
  have HS := hid hs2
  have hno : ¬ (w.heap.size + 1) ∈ s'.own B := fun hk => by
    rcases hs1.own _ hk with h1 | h1
    · exact HNE.out h1
    · have := HR4.out.lt; omega
  have HNO := hid hno
  clear hno
  have HR5 := hid r4
  clear hs1 hs2 r4 q3 z3 HR4 HS0
  go_wp2_with fail
  (try simp only [Exit.inBlock, Exit.then])
  refine bodyPost_ret (results_cell_row rfl _ _ (w.heap.size + 1) _ _ _ _ rfl (show _ = some (Obj.cells (List.toArray _) _) from (HR5.out.set 0 _).set 1 _) Try.underlying37 rfl (by kernel_rfl)) rfl ?_
  exact ⟨s', rfl, HAB.out, doEnd HS.out HNO.out _ _⟩
set_option maxRecDepth 100000 in
set_option maxHeartbeats 4000000 in
theorem do_Restart (w : World) (B base : Nat) (s : St) (op : Int) (nm tx : ByteArray) (st n : Int) (kept : Nat) (h : s.At w B base) (ok : s.ab.ok) (hlen : s.ents.length ≤ 64) (_hnm : nm.size ≤ 300) (_htx : tx.size ≤ 300) (_hst : st ≤ 9223372036854775807) (_hnn : n ≤ 9223372036854775807) (hbase : base ≤ w.heap.size) (hop : op = 7) :
    Calls Try.prog 16 #[.pointer (some ⟨B, 0, none⟩), .agg #[.int .i64 op, .string nm, .string tx, .int .i64 st, .int .i64 n, .int .u64 kept]] w (DPost base B s (([], 0), s.ab.restart kept) w) := by
  have HC := hid True.intro
  subst hop
  go_enter Try.func16, Try.ntmps16
  go_upto_region 1 with fail
  have HS0 : Hid (Step base B s s w ((w.alloc (.cells #[.int .i64 7, .string nm, .string tx, .int .i64 st, .int .i64 n, .int .u64 kept] 41)).alloc (.cells #[.string ⟨#[]⟩, .int .i64 0] 37))) := (Step.refl h).more ((Grow.alloc w _).trans (Grow.alloc _ _)) (Nat.le_refl _)
  have r3 : Row ((w.alloc (.cells #[.int .i64 7, .string nm, .string tx, .int .i64 st, .int .i64 n, .int .u64 kept] 41)).alloc (.cells #[.string ⟨#[]⟩, .int .i64 0] 37)) w.heap.size [.int .i64 7, .string nm, .string tx, .int .i64 st, .int .i64 n, .int .u64 kept] 41 := (Row.at w [.int .i64 7, .string nm, .string tx, .int .i64 st, .int .i64 n, .int .u64 kept] _).below (Grow.alloc _ _) (Row.at w [.int .i64 7, .string nm, .string tx, .int .i64 st, .int .i64 n, .int .u64 kept] _).lt
  have r4 : Row ((w.alloc (.cells #[.int .i64 7, .string nm, .string tx, .int .i64 st, .int .i64 n, .int .u64 kept] 41)).alloc (.cells #[.string ⟨#[]⟩, .int .i64 0] 37)) (w.heap.size + 1) [.string ⟨#[]⟩, .int .i64 0] 37 := Row.new (cs := [.string ⟨#[]⟩, .int .i64 0]) (by simp)
  have HX := hid True.intro
  generalize ((w.alloc (.cells #[.int .i64 7, .string nm, .string tx, .int .i64 st, .int .i64 n, .int .u64 kept] 41)).alloc (.cells #[.string ⟨#[]⟩, .int .i64 0] 37)) = x at *
  have q3 := Row.six r3
  have z3 := r3.lt
  have HR4 := hid r4
  have hne : ¬ (w.heap.size + 1) ∈ s.own B := fun hk => by have := (h.blocks _ hk).2; omega
  have HNE := hid hne
  clear r3 r4 hne
  go_wp2_with fail
  refine (Restart2_any x B base s kept HS0.out.at' ok (by omega) (by have := HS0.out.but.size; omega)).mono ?_
  rintro e w1 ⟨s', rfl, hab, hs1⟩
  have hs2 := HS0.out.trans hs1
  have r4 := hs1.but.row HR4.out HNE.out
  have q4 := Row.two r4
  have z4 := r4.lt
  have HS := hid hs2
  have hno : ¬ (w.heap.size + 1) ∈ s'.own B := fun hk => by
    rcases hs1.own _ hk with h1 | h1
    · exact HNE.out h1
    · have := HR4.out.lt; omega
  have HNO := hid hno
  clear hno
  have HR5 := hid r4
  have HAB := hid hab
  clear hab
  clear hs1 hs2 r4 q3 z3 HR4 HS0
  go_wp2_with fail
  (try simp only [Exit.inBlock, Exit.then])
  refine bodyPost_ret (results_cell_row rfl _ _ (w.heap.size + 1) _ _ _ _ rfl (show _ = some (Obj.cells (List.toArray _) _) from (HR5.out.set 0 _).set 1 _) Try.underlying37 rfl (by kernel_rfl)) rfl ?_
  exact ⟨s', rfl, HAB.out, doEnd HS.out HNO.out _ _⟩
set_option maxRecDepth 100000 in
set_option maxHeartbeats 4000000 in
theorem do_none (w : World) (B base : Nat) (s : St) (op : Int) (nm tx : ByteArray) (st n : Int) (kept : Nat) (h : s.At w B base) (_ok : s.ab.ok) (_hlen : s.ents.length ≤ 64) (_hnm : nm.size ≤ 300) (_htx : tx.size ≤ 300) (_hst : st ≤ 9223372036854775807) (_hnn : n ≤ 9223372036854775807) (_hbase : base ≤ w.heap.size) (hop : (op == 0) = false ∧ (op == 1) = false ∧ (op == 2) = false ∧ (op == 3) = false ∧ (op == 4) = false ∧ (op == 5) = false ∧ (op == 6) = false ∧ (op == 7) = false) :
    Calls Try.prog 16 #[.pointer (some ⟨B, 0, none⟩), .agg #[.int .i64 op, .string nm, .string tx, .int .i64 st, .int .i64 n, .int .u64 kept]] w (DPost base B s (([], 0), s.ab) w) := by
  have HC := hid True.intro
  obtain ⟨o0, o1, o2, o3, o4, o5, o6, o7⟩ := hop
  go_enter Try.func16, Try.ntmps16
  go_upto_region 1 with fail
  have HS0 : Hid (Step base B s s w ((w.alloc (.cells #[.int .i64 op, .string nm, .string tx, .int .i64 st, .int .i64 n, .int .u64 kept] 41)).alloc (.cells #[.string ⟨#[]⟩, .int .i64 0] 37))) := (Step.refl h).more ((Grow.alloc w _).trans (Grow.alloc _ _)) (Nat.le_refl _)
  have r3 : Row ((w.alloc (.cells #[.int .i64 op, .string nm, .string tx, .int .i64 st, .int .i64 n, .int .u64 kept] 41)).alloc (.cells #[.string ⟨#[]⟩, .int .i64 0] 37)) w.heap.size [.int .i64 op, .string nm, .string tx, .int .i64 st, .int .i64 n, .int .u64 kept] 41 := (Row.at w [.int .i64 op, .string nm, .string tx, .int .i64 st, .int .i64 n, .int .u64 kept] _).below (Grow.alloc _ _) (Row.at w [.int .i64 op, .string nm, .string tx, .int .i64 st, .int .i64 n, .int .u64 kept] _).lt
  have r4 : Row ((w.alloc (.cells #[.int .i64 op, .string nm, .string tx, .int .i64 st, .int .i64 n, .int .u64 kept] 41)).alloc (.cells #[.string ⟨#[]⟩, .int .i64 0] 37)) (w.heap.size + 1) [.string ⟨#[]⟩, .int .i64 0] 37 := Row.new (cs := [.string ⟨#[]⟩, .int .i64 0]) (by simp)
  have HX := hid True.intro
  generalize ((w.alloc (.cells #[.int .i64 op, .string nm, .string tx, .int .i64 st, .int .i64 n, .int .u64 kept] 41)).alloc (.cells #[.string ⟨#[]⟩, .int .i64 0] 37)) = x at *
  have q3 := Row.six r3
  have z3 := r3.lt
  have HR4 := hid r4
  have hne : ¬ (w.heap.size + 1) ∈ s.own B := fun hk => by have := (h.blocks _ hk).2; omega
  have HNE := hid hne
  clear r3 r4 hne
  have q4 := Row.two HR4.out
  have z4 := HR4.out.lt
  clear HX
  go_wp2_with fail
  (try simp only [Exit.inBlock, Exit.then])
  refine bodyPost_ret (results_cell_row rfl _ _ (w.heap.size + 1) _ _ _ _ rfl (show _ = some (Obj.cells (List.toArray _) _) from (HR4.out.set 0 _).set 1 _) Try.underlying37 rfl (by kernel_rfl)) rfl ?_
  exact ⟨s, rfl, rfl, doEnd HS0.out HNE.out _ _⟩
theorem do_any (w : World) (B base : Nat) (s : St) (c : CallD) (h : s.At w B base) (ok : s.ab.ok) (hlen : s.ents.length ≤ 64) (hc : c.fit) (hbase : base ≤ w.heap.size) :
    Calls Try.prog 16 #[.pointer (some ⟨B, 0, none⟩), .agg c.cells.toArray] w (DPost base B s (s.ab.call c) w) := by
  obtain ⟨op, nm, tx, st, n, kept⟩ := c
  obtain ⟨c1, c2, c3, c4⟩ := hc
  unfold Ab.call
  show Calls _ _ _ _ (DPost base B s (if op = 0 then _ else if op = 1 then _ else if op = 2 then _ else if op = 3 then _ else if op = 4 then _ else if op = 5 then _ else if op = 6 then _ else if op = 7 then _ else _) w)
  split
  · exact do_Create w B base s op nm tx st n kept h ok hlen c1 c2 c3 c4 hbase (by assumption)
  split
  · exact do_Append w B base s op nm tx st n kept h ok hlen c1 c2 c3 c4 hbase (by assumption)
  split
  · exact do_Read w B base s op nm tx st n kept h ok hlen c1 c2 c3 c4 hbase (by assumption)
  split
  · exact do_Sync w B base s op nm tx st n kept h ok hlen c1 c2 c3 c4 hbase (by assumption)
  split
  · exact do_Rename w B base s op nm tx st n kept h ok hlen c1 c2 c3 c4 hbase (by assumption)
  split
  · exact do_Remove w B base s op nm tx st n kept h ok hlen c1 c2 c3 c4 hbase (by assumption)
  split
  · exact do_FailAfter w B base s op nm tx st n kept h ok hlen c1 c2 c3 c4 hbase (by assumption)
  split
  · exact do_Restart w B base s op nm tx st n kept h ok hlen c1 c2 c3 c4 hbase (by assumption)
  · exact do_none w B base s op nm tx st n kept h ok hlen c1 c2 c3 c4 hbase (by simp only [beq_eq_false_iff_ne]; omega)
end Go.Proofs.Ytnncbbfbnccnbaa
