/- The law's do on a store whose map is nil, and on a nil store. Written by gen_doz.py. -/
import Derived.Test.YtnncbbfbnccnbaaZero
namespace Go.Proofs.Ytnncbbfbnccnbaa
open Go.RowKit Go.Maps Go.Sort
attribute [local go_sem] gives givesUpon

inductive ZS where
  | st (s : St)
  | zero (crash : Bool) (count : Int)
def ZS.ab : ZS → Ab
  | .st s => s.ab
  | .zero c n => zab c n
def ZS.At (w : World) (B base : Nat) : ZS → Prop
  | .st s => s.At w B base
  | .zero c n => Zat w B c n ∧ base ≤ B
def ZS.own (B : Nat) : ZS → List Nat
  | .st s => s.own B
  | .zero _ _ => [B]
theorem ZS.blocks {w : World} {B base : Nat} : ∀ {z : ZS}, z.At w B base → ∀ k, k ∈ z.own B → base ≤ k ∧ k < w.heap.size
  | .st s, h, k, hk => St.At.blocks h k hk
  | .zero c n, h, k, hk => by
    obtain rfl : k = B := by simpa [ZS.own] using hk
    exact ⟨h.2, h.1.lt⟩
theorem ZS.kept {w w' : World} {B base : Nat} : ∀ {z : ZS}, z.At w B base → (∀ k, k ∈ z.own B → w'.heap[k]? = w.heap[k]?) → z.At w' B base
  | .st s, h, hk => St.At.kept h hk
  | .zero c n, h, hk => ⟨(hk B (by simp [ZS.own])).trans h.1, h.2⟩
def zsK : Kind ZS where
  At w B base z := z.At w B base
  own z B := z.own B
  blocks h := ZS.blocks h
  kept h := ZS.kept h
theorem Step.zs {base B : Nat} {s s' : St} {w w' : World} (h : Step base B s s' w w') : Moved zsK base B (.st s) (.st s') w w' := ⟨h.at', h.but, h.own⟩
theorem Zstep.zs {base B : Nat} {c c' : Bool} {n n' : Int} {w w' : World} (h : Zstep B w w') (hz : Zat w' B c' n') (hb : base ≤ B) : Moved zsK base B (.zero c n) (.zero c' n') w w' := ⟨⟨hz, hb⟩, h.but, fun _ hk => .inl hk⟩
theorem zsEnd {base B : Nat} {z z' : ZS} {w w1 : World} (h : Moved zsK base B z z' w w1) (hno : ¬ (w.heap.size + 1) ∈ zsK.own z' B) (u v : Value) :
    Moved zsK base B z z' w ((w1.setCell ⟨w.heap.size + 1, 0, none⟩ u).setCell ⟨w.heap.size + 1, 1, none⟩ v) := by
  refine ⟨zsK.kept h.at' fun k hk => ?_, (h.but.setCell (.inr (by simp)) u).setCell (.inr (by simp)) v, h.own⟩
  have hne : k ≠ w.heap.size + 1 := fun e => hno (by rw [← e]; exact hk)
  rw [Below.heap_setCell _ _ _ _ hne, Below.heap_setCell _ _ _ _ hne]
def DZPost (base B : Nat) (z : ZS) (res : (List UInt8 × Int) × Ab) (w : World) (e : Ending) (w' : World) : Prop :=
  ∃ z', e = .returned (.agg #[.string ⟨res.1.1.toArray⟩, .int .i64 res.1.2]) ∧ z'.ab = res.2 ∧ Moved zsK base B z z' w w'
theorem zerr_cases (crash : Bool) (count : Int) : (zab crash count).began.crash = true ∧ zerr crash count = 19 ∨ (zab crash count).began.crash = false ∧ zerr crash count = 5 := by
  rw [zb_ab]
  unfold zerr
  cases h : (zb crash count).1 with
  | true => exact .inl ⟨rfl, rfl⟩
  | false => exact .inr ⟨rfl, rfl⟩
theorem zab_find (crash : Bool) (count : Int) (nm : List UInt8) : (zab crash count).began.find nm = none := by rw [zb_ab]; rfl
theorem z_append (crash : Bool) (count : Int) (nm tx : List UInt8) : (zab crash count).append nm tx = (zerr crash count, zab (zb crash count).1 (zb crash count).2) := by
  unfold Ab.append
  rw [zab_find]
  rcases zerr_cases crash count with ⟨h1, h2⟩ | ⟨h1, h2⟩
  · rw [if_pos h1, h2, zb_ab]
  · rw [if_neg (by rw [h1]; simp), h2, zb_ab]
theorem z_sync (crash : Bool) (count : Int) (nm : List UInt8) : (zab crash count).sync nm = (zerr crash count, zab (zb crash count).1 (zb crash count).2) := by
  unfold Ab.sync
  rw [zab_find]
  rcases zerr_cases crash count with ⟨h1, h2⟩ | ⟨h1, h2⟩
  · rw [if_pos h1, h2, zb_ab]
  · rw [if_neg (by rw [h1]; simp), h2, zb_ab]
theorem z_remove (crash : Bool) (count : Int) (nm : List UInt8) : (zab crash count).remove nm = (zerr crash count, zab (zb crash count).1 (zb crash count).2) := by
  unfold Ab.remove
  rw [zab_find]
  rcases zerr_cases crash count with ⟨h1, h2⟩ | ⟨h1, h2⟩
  · rw [if_pos h1, h2, zb_ab]
  · rw [if_neg (by rw [h1]; simp), h2, zb_ab]
theorem z_rename (crash : Bool) (count : Int) (nm tx : List UInt8) : (zab crash count).rename nm tx = (zerr crash count, zab (zb crash count).1 (zb crash count).2) := by
  unfold Ab.rename
  rw [zab_find]
  rcases zerr_cases crash count with ⟨h1, h2⟩ | ⟨h1, h2⟩
  · rw [if_pos h1, h2, zb_ab]
  · rw [if_neg (by rw [h1]; simp), h2, zb_ab]
theorem z_read (crash : Bool) (count : Int) (nm : List UInt8) (i n : Int) : (zab crash count).read nm i n = ([], zerr crash count, zab (zb crash count).1 (zb crash count).2) := by
  unfold Ab.read
  rw [zab_find]
  rcases zerr_cases crash count with ⟨h1, h2⟩ | ⟨h1, h2⟩
  · rw [if_pos h1, h2, zb_ab]
  · rw [if_neg (by rw [h1]; simp), h2, zb_ab]
set_option maxRecDepth 100000 in
set_option maxHeartbeats 4000000 in
theorem doz_Create (w : World) (B base : Nat) (crash : Bool) (count : Int) (op : Int) (nm tx : ByteArray) (st n : Int) (kept : Nat) (h : Zat w B crash count) (hbB : base ≤ B) (hc : 0 ≤ count ∧ count ≤ 9223372036854775807) (hnm : nm.size ≤ 300) (hop : op = 0) :
    Calls Try.prog 16 #[.pointer (some ⟨B, 0, none⟩), .agg #[.int .i64 op, .string nm, .string tx, .int .i64 st, .int .i64 n, .int .u64 kept]] w (DZPost base B (.zero crash count) (lift ((zab crash count).create nm.data.toList)) w) := by
  subst hop
  have hlt := h.lt
  go_enter Try.func16, Try.ntmps16
  go_upto_region 1 with fail
  have HB0 : Hid (Below w.heap.size w ((w.alloc (.cells #[.int .i64 0, .string nm, .string tx, .int .i64 st, .int .i64 n, .int .u64 kept] 41)).alloc (.cells #[.string ⟨#[]⟩, .int .i64 0] 37))) := (Grow.alloc w _).trans (Grow.alloc _ _)
  have r3 : Row ((w.alloc (.cells #[.int .i64 0, .string nm, .string tx, .int .i64 st, .int .i64 n, .int .u64 kept] 41)).alloc (.cells #[.string ⟨#[]⟩, .int .i64 0] 37)) w.heap.size [.int .i64 0, .string nm, .string tx, .int .i64 st, .int .i64 n, .int .u64 kept] 41 := (Row.at w [.int .i64 0, .string nm, .string tx, .int .i64 st, .int .i64 n, .int .u64 kept] _).below (Grow.alloc _ _) (Row.at w [.int .i64 0, .string nm, .string tx, .int .i64 st, .int .i64 n, .int .u64 kept] _).lt
  have r4 : Row ((w.alloc (.cells #[.int .i64 0, .string nm, .string tx, .int .i64 st, .int .i64 n, .int .u64 kept] 41)).alloc (.cells #[.string ⟨#[]⟩, .int .i64 0] 37)) (w.heap.size + 1) [.string ⟨#[]⟩, .int .i64 0] 37 := Row.new (cs := [.string ⟨#[]⟩, .int .i64 0]) (by simp)
  generalize ((w.alloc (.cells #[.int .i64 0, .string nm, .string tx, .int .i64 st, .int .i64 n, .int .u64 kept] 41)).alloc (.cells #[.string ⟨#[]⟩, .int .i64 0] 37)) = x at *
  have q3 := Row.six r3
  have z3 := r3.lt
  have HR4 := hid r4
  clear r3 r4
  have HZ0 : Hid (Zat x B crash count) := Row.below h HB0.out h.lt
  have hBx : B < x.heap.size := by have := HB0.out.size; omega
  have hne : ¬ (w.heap.size + 1) ∈ [B] := by simp; omega
  have HNE := hid hne
  clear hne h
  go_wp2_with fail
  refine (zCreate_any x B base crash count nm HZ0.out hc (by omega) hbB).mono ?_
  rintro e w1 ⟨rfl, h2, h3⟩
  have HH3 := hid h3
  have HH2 := hid h2
  have HR5 := hid (HR4.out.but h2.but HNE.out)
  have q4 := Row.two HR5.out
  have z4 := HR5.out.lt
  clear h2 h3 q3 z3
  go_wp2_with fail
  (try simp only [Exit.inBlock, Exit.then])
  refine bodyPost_ret (results_cell_row rfl _ _ (w.heap.size + 1) _ _ _ _ rfl (show _ = some (Obj.cells (List.toArray _) _) from (HR5.out.set 0 _).set 1 _) Try.underlying37 rfl (by kernel_rfl)) rfl ?_
  rcases HH3.out with ⟨c', n', hz, he⟩ | ⟨s, hs, he, hown⟩
  · exact ⟨.zero c' n', rfl, he.symm, zsEnd (Zstep.zs (Zstep.trans ⟨But.of_below HB0.out⟩ HH2.out) hz hbB) HNE.out _ _⟩
  · refine ⟨.st s, rfl, he, zsEnd (z := .zero crash count) (z' := .st s) ⟨hs, (Zstep.trans ⟨But.of_below HB0.out⟩ HH2.out).but, fun k hk => ?_⟩ (fun hk => ?_) _ _⟩
    · rcases hown k hk with h4 | h4
      · exact .inl (by subst h4; show k ∈ [k]; simp)
      · exact .inr (by have := HB0.out.size; omega)
    · rcases hown _ hk with h4 | h4
      · exact HNE.out (by simp [h4])
      · have := HR4.out.lt; omega
set_option maxRecDepth 100000 in
set_option maxHeartbeats 4000000 in
theorem doz_Append (w : World) (B base : Nat) (crash : Bool) (count : Int) (op : Int) (nm tx : ByteArray) (st n : Int) (kept : Nat) (h : Zat w B crash count) (hbB : base ≤ B) (hc : 0 ≤ count ∧ count ≤ 9223372036854775807) (_hnm : nm.size ≤ 300) (hop : op = 1) :
    Calls Try.prog 16 #[.pointer (some ⟨B, 0, none⟩), .agg #[.int .i64 op, .string nm, .string tx, .int .i64 st, .int .i64 n, .int .u64 kept]] w (DZPost base B (.zero crash count) (lift ((zab crash count).append nm.data.toList tx.data.toList)) w) := by
  subst hop
  rw [z_append crash count nm.data.toList tx.data.toList]
  have hlt := h.lt
  go_enter Try.func16, Try.ntmps16
  go_upto_region 1 with fail
  have HB0 : Hid (Below w.heap.size w ((w.alloc (.cells #[.int .i64 1, .string nm, .string tx, .int .i64 st, .int .i64 n, .int .u64 kept] 41)).alloc (.cells #[.string ⟨#[]⟩, .int .i64 0] 37))) := (Grow.alloc w _).trans (Grow.alloc _ _)
  have r3 : Row ((w.alloc (.cells #[.int .i64 1, .string nm, .string tx, .int .i64 st, .int .i64 n, .int .u64 kept] 41)).alloc (.cells #[.string ⟨#[]⟩, .int .i64 0] 37)) w.heap.size [.int .i64 1, .string nm, .string tx, .int .i64 st, .int .i64 n, .int .u64 kept] 41 := (Row.at w [.int .i64 1, .string nm, .string tx, .int .i64 st, .int .i64 n, .int .u64 kept] _).below (Grow.alloc _ _) (Row.at w [.int .i64 1, .string nm, .string tx, .int .i64 st, .int .i64 n, .int .u64 kept] _).lt
  have r4 : Row ((w.alloc (.cells #[.int .i64 1, .string nm, .string tx, .int .i64 st, .int .i64 n, .int .u64 kept] 41)).alloc (.cells #[.string ⟨#[]⟩, .int .i64 0] 37)) (w.heap.size + 1) [.string ⟨#[]⟩, .int .i64 0] 37 := Row.new (cs := [.string ⟨#[]⟩, .int .i64 0]) (by simp)
  generalize ((w.alloc (.cells #[.int .i64 1, .string nm, .string tx, .int .i64 st, .int .i64 n, .int .u64 kept] 41)).alloc (.cells #[.string ⟨#[]⟩, .int .i64 0] 37)) = x at *
  have q3 := Row.six r3
  have z3 := r3.lt
  have HR4 := hid r4
  clear r3 r4
  have HZ0 : Hid (Zat x B crash count) := Row.below h HB0.out h.lt
  have hBx : B < x.heap.size := by have := HB0.out.size; omega
  have hne : ¬ (w.heap.size + 1) ∈ [B] := by simp; omega
  have HNE := hid hne
  clear hne h
  go_wp2_with fail
  refine (zAppend_any x B crash count nm tx HZ0.out hc).mono ?_
  rintro e w1 ⟨rfl, h1, h2⟩
  have HH1 := hid h1
  have HH2 := hid h2
  have HR5 := hid (HR4.out.but h2.but HNE.out)
  have q4 := Row.two HR5.out
  have z4 := HR5.out.lt
  clear h1 h2 q3 z3
  go_wp2_with fail
  (try simp only [Exit.inBlock, Exit.then])
  refine bodyPost_ret (results_cell_row rfl _ _ (w.heap.size + 1) _ _ _ _ rfl (show _ = some (Obj.cells (List.toArray _) _) from (HR5.out.set 0 _).set 1 _) Try.underlying37 rfl (by kernel_rfl)) rfl ?_
  exact ⟨.zero (zb crash count).1 (zb crash count).2, rfl, rfl, zsEnd (Zstep.zs (Zstep.trans ⟨But.of_below HB0.out⟩ HH2.out) HH1.out hbB) HNE.out _ _⟩
set_option maxRecDepth 100000 in
set_option maxHeartbeats 4000000 in
theorem doz_Read (w : World) (B base : Nat) (crash : Bool) (count : Int) (op : Int) (nm tx : ByteArray) (st n : Int) (kept : Nat) (h : Zat w B crash count) (hbB : base ≤ B) (hc : 0 ≤ count ∧ count ≤ 9223372036854775807) (_hnm : nm.size ≤ 300) (hop : op = 2) :
    Calls Try.prog 16 #[.pointer (some ⟨B, 0, none⟩), .agg #[.int .i64 op, .string nm, .string tx, .int .i64 st, .int .i64 n, .int .u64 kept]] w (DZPost base B (.zero crash count) (((((zab crash count).read nm.data.toList st n).1, ((zab crash count).read nm.data.toList st n).2.1), ((zab crash count).read nm.data.toList st n).2.2)) w) := by
  subst hop
  rw [z_read crash count nm.data.toList st n]
  have hlt := h.lt
  go_enter Try.func16, Try.ntmps16
  go_upto_region 1 with fail
  have HB0 : Hid (Below w.heap.size w ((w.alloc (.cells #[.int .i64 2, .string nm, .string tx, .int .i64 st, .int .i64 n, .int .u64 kept] 41)).alloc (.cells #[.string ⟨#[]⟩, .int .i64 0] 37))) := (Grow.alloc w _).trans (Grow.alloc _ _)
  have r3 : Row ((w.alloc (.cells #[.int .i64 2, .string nm, .string tx, .int .i64 st, .int .i64 n, .int .u64 kept] 41)).alloc (.cells #[.string ⟨#[]⟩, .int .i64 0] 37)) w.heap.size [.int .i64 2, .string nm, .string tx, .int .i64 st, .int .i64 n, .int .u64 kept] 41 := (Row.at w [.int .i64 2, .string nm, .string tx, .int .i64 st, .int .i64 n, .int .u64 kept] _).below (Grow.alloc _ _) (Row.at w [.int .i64 2, .string nm, .string tx, .int .i64 st, .int .i64 n, .int .u64 kept] _).lt
  have r4 : Row ((w.alloc (.cells #[.int .i64 2, .string nm, .string tx, .int .i64 st, .int .i64 n, .int .u64 kept] 41)).alloc (.cells #[.string ⟨#[]⟩, .int .i64 0] 37)) (w.heap.size + 1) [.string ⟨#[]⟩, .int .i64 0] 37 := Row.new (cs := [.string ⟨#[]⟩, .int .i64 0]) (by simp)
  generalize ((w.alloc (.cells #[.int .i64 2, .string nm, .string tx, .int .i64 st, .int .i64 n, .int .u64 kept] 41)).alloc (.cells #[.string ⟨#[]⟩, .int .i64 0] 37)) = x at *
  have q3 := Row.six r3
  have z3 := r3.lt
  have HR4 := hid r4
  clear r3 r4
  have HZ0 : Hid (Zat x B crash count) := Row.below h HB0.out h.lt
  have hBx : B < x.heap.size := by have := HB0.out.size; omega
  have hne : ¬ (w.heap.size + 1) ∈ [B] := by simp; omega
  have HNE := hid hne
  clear hne h
  go_wp2_with fail
  refine (zRead_any x B crash count nm st n HZ0.out hc).mono ?_
  rintro e w1 ⟨rfl, h1, h2⟩
  have HH1 := hid h1
  have HH2 := hid h2
  have HR5 := hid (HR4.out.but h2.but HNE.out)
  have q4 := Row.two HR5.out
  have z4 := HR5.out.lt
  clear h1 h2 q3 z3
  go_wp2_with fail
  (try simp only [Exit.inBlock, Exit.then])
  refine bodyPost_ret (results_cell_row rfl _ _ (w.heap.size + 1) _ _ _ _ rfl (show _ = some (Obj.cells (List.toArray _) _) from (HR5.out.set 0 _).set 1 _) Try.underlying37 rfl (by kernel_rfl)) rfl ?_
  exact ⟨.zero (zb crash count).1 (zb crash count).2, rfl, rfl, zsEnd (Zstep.zs (Zstep.trans ⟨But.of_below HB0.out⟩ HH2.out) HH1.out hbB) HNE.out _ _⟩
set_option maxRecDepth 100000 in
set_option maxHeartbeats 4000000 in
theorem doz_Sync (w : World) (B base : Nat) (crash : Bool) (count : Int) (op : Int) (nm tx : ByteArray) (st n : Int) (kept : Nat) (h : Zat w B crash count) (hbB : base ≤ B) (hc : 0 ≤ count ∧ count ≤ 9223372036854775807) (_hnm : nm.size ≤ 300) (hop : op = 3) :
    Calls Try.prog 16 #[.pointer (some ⟨B, 0, none⟩), .agg #[.int .i64 op, .string nm, .string tx, .int .i64 st, .int .i64 n, .int .u64 kept]] w (DZPost base B (.zero crash count) (lift ((zab crash count).sync nm.data.toList)) w) := by
  subst hop
  rw [z_sync crash count nm.data.toList]
  have hlt := h.lt
  go_enter Try.func16, Try.ntmps16
  go_upto_region 1 with fail
  have HB0 : Hid (Below w.heap.size w ((w.alloc (.cells #[.int .i64 3, .string nm, .string tx, .int .i64 st, .int .i64 n, .int .u64 kept] 41)).alloc (.cells #[.string ⟨#[]⟩, .int .i64 0] 37))) := (Grow.alloc w _).trans (Grow.alloc _ _)
  have r3 : Row ((w.alloc (.cells #[.int .i64 3, .string nm, .string tx, .int .i64 st, .int .i64 n, .int .u64 kept] 41)).alloc (.cells #[.string ⟨#[]⟩, .int .i64 0] 37)) w.heap.size [.int .i64 3, .string nm, .string tx, .int .i64 st, .int .i64 n, .int .u64 kept] 41 := (Row.at w [.int .i64 3, .string nm, .string tx, .int .i64 st, .int .i64 n, .int .u64 kept] _).below (Grow.alloc _ _) (Row.at w [.int .i64 3, .string nm, .string tx, .int .i64 st, .int .i64 n, .int .u64 kept] _).lt
  have r4 : Row ((w.alloc (.cells #[.int .i64 3, .string nm, .string tx, .int .i64 st, .int .i64 n, .int .u64 kept] 41)).alloc (.cells #[.string ⟨#[]⟩, .int .i64 0] 37)) (w.heap.size + 1) [.string ⟨#[]⟩, .int .i64 0] 37 := Row.new (cs := [.string ⟨#[]⟩, .int .i64 0]) (by simp)
  generalize ((w.alloc (.cells #[.int .i64 3, .string nm, .string tx, .int .i64 st, .int .i64 n, .int .u64 kept] 41)).alloc (.cells #[.string ⟨#[]⟩, .int .i64 0] 37)) = x at *
  have q3 := Row.six r3
  have z3 := r3.lt
  have HR4 := hid r4
  clear r3 r4
  have HZ0 : Hid (Zat x B crash count) := Row.below h HB0.out h.lt
  have hBx : B < x.heap.size := by have := HB0.out.size; omega
  have hne : ¬ (w.heap.size + 1) ∈ [B] := by simp; omega
  have HNE := hid hne
  clear hne h
  go_wp2_with fail
  refine (zSync_any x B crash count nm HZ0.out hc).mono ?_
  rintro e w1 ⟨rfl, h1, h2⟩
  have HH1 := hid h1
  have HH2 := hid h2
  have HR5 := hid (HR4.out.but h2.but HNE.out)
  have q4 := Row.two HR5.out
  have z4 := HR5.out.lt
  clear h1 h2 q3 z3
  go_wp2_with fail
  (try simp only [Exit.inBlock, Exit.then])
  refine bodyPost_ret (results_cell_row rfl _ _ (w.heap.size + 1) _ _ _ _ rfl (show _ = some (Obj.cells (List.toArray _) _) from (HR5.out.set 0 _).set 1 _) Try.underlying37 rfl (by kernel_rfl)) rfl ?_
  exact ⟨.zero (zb crash count).1 (zb crash count).2, rfl, rfl, zsEnd (Zstep.zs (Zstep.trans ⟨But.of_below HB0.out⟩ HH2.out) HH1.out hbB) HNE.out _ _⟩
set_option maxRecDepth 100000 in
set_option maxHeartbeats 4000000 in
theorem doz_Rename (w : World) (B base : Nat) (crash : Bool) (count : Int) (op : Int) (nm tx : ByteArray) (st n : Int) (kept : Nat) (h : Zat w B crash count) (hbB : base ≤ B) (hc : 0 ≤ count ∧ count ≤ 9223372036854775807) (_hnm : nm.size ≤ 300) (hop : op = 4) :
    Calls Try.prog 16 #[.pointer (some ⟨B, 0, none⟩), .agg #[.int .i64 op, .string nm, .string tx, .int .i64 st, .int .i64 n, .int .u64 kept]] w (DZPost base B (.zero crash count) (lift ((zab crash count).rename nm.data.toList tx.data.toList)) w) := by
  subst hop
  rw [z_rename crash count nm.data.toList tx.data.toList]
  have hlt := h.lt
  go_enter Try.func16, Try.ntmps16
  go_upto_region 1 with fail
  have HB0 : Hid (Below w.heap.size w ((w.alloc (.cells #[.int .i64 4, .string nm, .string tx, .int .i64 st, .int .i64 n, .int .u64 kept] 41)).alloc (.cells #[.string ⟨#[]⟩, .int .i64 0] 37))) := (Grow.alloc w _).trans (Grow.alloc _ _)
  have r3 : Row ((w.alloc (.cells #[.int .i64 4, .string nm, .string tx, .int .i64 st, .int .i64 n, .int .u64 kept] 41)).alloc (.cells #[.string ⟨#[]⟩, .int .i64 0] 37)) w.heap.size [.int .i64 4, .string nm, .string tx, .int .i64 st, .int .i64 n, .int .u64 kept] 41 := (Row.at w [.int .i64 4, .string nm, .string tx, .int .i64 st, .int .i64 n, .int .u64 kept] _).below (Grow.alloc _ _) (Row.at w [.int .i64 4, .string nm, .string tx, .int .i64 st, .int .i64 n, .int .u64 kept] _).lt
  have r4 : Row ((w.alloc (.cells #[.int .i64 4, .string nm, .string tx, .int .i64 st, .int .i64 n, .int .u64 kept] 41)).alloc (.cells #[.string ⟨#[]⟩, .int .i64 0] 37)) (w.heap.size + 1) [.string ⟨#[]⟩, .int .i64 0] 37 := Row.new (cs := [.string ⟨#[]⟩, .int .i64 0]) (by simp)
  generalize ((w.alloc (.cells #[.int .i64 4, .string nm, .string tx, .int .i64 st, .int .i64 n, .int .u64 kept] 41)).alloc (.cells #[.string ⟨#[]⟩, .int .i64 0] 37)) = x at *
  have q3 := Row.six r3
  have z3 := r3.lt
  have HR4 := hid r4
  clear r3 r4
  have HZ0 : Hid (Zat x B crash count) := Row.below h HB0.out h.lt
  have hBx : B < x.heap.size := by have := HB0.out.size; omega
  have hne : ¬ (w.heap.size + 1) ∈ [B] := by simp; omega
  have HNE := hid hne
  clear hne h
  go_wp2_with fail
  refine (zRename_any x B crash count nm tx HZ0.out hc).mono ?_
  rintro e w1 ⟨rfl, h1, h2⟩
  have HH1 := hid h1
  have HH2 := hid h2
  have HR5 := hid (HR4.out.but h2.but HNE.out)
  have q4 := Row.two HR5.out
  have z4 := HR5.out.lt
  clear h1 h2 q3 z3
  go_wp2_with fail
  (try simp only [Exit.inBlock, Exit.then])
  refine bodyPost_ret (results_cell_row rfl _ _ (w.heap.size + 1) _ _ _ _ rfl (show _ = some (Obj.cells (List.toArray _) _) from (HR5.out.set 0 _).set 1 _) Try.underlying37 rfl (by kernel_rfl)) rfl ?_
  exact ⟨.zero (zb crash count).1 (zb crash count).2, rfl, rfl, zsEnd (Zstep.zs (Zstep.trans ⟨But.of_below HB0.out⟩ HH2.out) HH1.out hbB) HNE.out _ _⟩
set_option maxRecDepth 100000 in
set_option maxHeartbeats 4000000 in
theorem doz_Remove (w : World) (B base : Nat) (crash : Bool) (count : Int) (op : Int) (nm tx : ByteArray) (st n : Int) (kept : Nat) (h : Zat w B crash count) (hbB : base ≤ B) (hc : 0 ≤ count ∧ count ≤ 9223372036854775807) (_hnm : nm.size ≤ 300) (hop : op = 5) :
    Calls Try.prog 16 #[.pointer (some ⟨B, 0, none⟩), .agg #[.int .i64 op, .string nm, .string tx, .int .i64 st, .int .i64 n, .int .u64 kept]] w (DZPost base B (.zero crash count) (lift ((zab crash count).remove nm.data.toList)) w) := by
  subst hop
  rw [z_remove crash count nm.data.toList]
  have hlt := h.lt
  go_enter Try.func16, Try.ntmps16
  go_upto_region 1 with fail
  have HB0 : Hid (Below w.heap.size w ((w.alloc (.cells #[.int .i64 5, .string nm, .string tx, .int .i64 st, .int .i64 n, .int .u64 kept] 41)).alloc (.cells #[.string ⟨#[]⟩, .int .i64 0] 37))) := (Grow.alloc w _).trans (Grow.alloc _ _)
  have r3 : Row ((w.alloc (.cells #[.int .i64 5, .string nm, .string tx, .int .i64 st, .int .i64 n, .int .u64 kept] 41)).alloc (.cells #[.string ⟨#[]⟩, .int .i64 0] 37)) w.heap.size [.int .i64 5, .string nm, .string tx, .int .i64 st, .int .i64 n, .int .u64 kept] 41 := (Row.at w [.int .i64 5, .string nm, .string tx, .int .i64 st, .int .i64 n, .int .u64 kept] _).below (Grow.alloc _ _) (Row.at w [.int .i64 5, .string nm, .string tx, .int .i64 st, .int .i64 n, .int .u64 kept] _).lt
  have r4 : Row ((w.alloc (.cells #[.int .i64 5, .string nm, .string tx, .int .i64 st, .int .i64 n, .int .u64 kept] 41)).alloc (.cells #[.string ⟨#[]⟩, .int .i64 0] 37)) (w.heap.size + 1) [.string ⟨#[]⟩, .int .i64 0] 37 := Row.new (cs := [.string ⟨#[]⟩, .int .i64 0]) (by simp)
  generalize ((w.alloc (.cells #[.int .i64 5, .string nm, .string tx, .int .i64 st, .int .i64 n, .int .u64 kept] 41)).alloc (.cells #[.string ⟨#[]⟩, .int .i64 0] 37)) = x at *
  have q3 := Row.six r3
  have z3 := r3.lt
  have HR4 := hid r4
  clear r3 r4
  have HZ0 : Hid (Zat x B crash count) := Row.below h HB0.out h.lt
  have hBx : B < x.heap.size := by have := HB0.out.size; omega
  have hne : ¬ (w.heap.size + 1) ∈ [B] := by simp; omega
  have HNE := hid hne
  clear hne h
  go_wp2_with fail
  refine (zRemove_any x B crash count nm HZ0.out hc).mono ?_
  rintro e w1 ⟨rfl, h1, h2⟩
  have HH1 := hid h1
  have HH2 := hid h2
  have HR5 := hid (HR4.out.but h2.but HNE.out)
  have q4 := Row.two HR5.out
  have z4 := HR5.out.lt
  clear h1 h2 q3 z3
  go_wp2_with fail
  (try simp only [Exit.inBlock, Exit.then])
  refine bodyPost_ret (results_cell_row rfl _ _ (w.heap.size + 1) _ _ _ _ rfl (show _ = some (Obj.cells (List.toArray _) _) from (HR5.out.set 0 _).set 1 _) Try.underlying37 rfl (by kernel_rfl)) rfl ?_
  exact ⟨.zero (zb crash count).1 (zb crash count).2, rfl, rfl, zsEnd (Zstep.zs (Zstep.trans ⟨But.of_below HB0.out⟩ HH2.out) HH1.out hbB) HNE.out _ _⟩
set_option maxRecDepth 100000 in
set_option maxHeartbeats 4000000 in
theorem doz_FailAfter (w : World) (B base : Nat) (crash : Bool) (count : Int) (op : Int) (nm tx : ByteArray) (st n : Int) (kept : Nat) (h : Zat w B crash count) (hbB : base ≤ B) (_hc : 0 ≤ count ∧ count ≤ 9223372036854775807) (_hnm : nm.size ≤ 300) (hop : op = 6) :
    Calls Try.prog 16 #[.pointer (some ⟨B, 0, none⟩), .agg #[.int .i64 op, .string nm, .string tx, .int .i64 st, .int .i64 n, .int .u64 kept]] w (DZPost base B (.zero crash count) ((([], 0), (zab crash count).fail n)) w) := by
  subst hop
  have hlt := h.lt
  go_enter Try.func16, Try.ntmps16
  go_upto_region 1 with fail
  have HB0 : Hid (Below w.heap.size w ((w.alloc (.cells #[.int .i64 6, .string nm, .string tx, .int .i64 st, .int .i64 n, .int .u64 kept] 41)).alloc (.cells #[.string ⟨#[]⟩, .int .i64 0] 37))) := (Grow.alloc w _).trans (Grow.alloc _ _)
  have r3 : Row ((w.alloc (.cells #[.int .i64 6, .string nm, .string tx, .int .i64 st, .int .i64 n, .int .u64 kept] 41)).alloc (.cells #[.string ⟨#[]⟩, .int .i64 0] 37)) w.heap.size [.int .i64 6, .string nm, .string tx, .int .i64 st, .int .i64 n, .int .u64 kept] 41 := (Row.at w [.int .i64 6, .string nm, .string tx, .int .i64 st, .int .i64 n, .int .u64 kept] _).below (Grow.alloc _ _) (Row.at w [.int .i64 6, .string nm, .string tx, .int .i64 st, .int .i64 n, .int .u64 kept] _).lt
  have r4 : Row ((w.alloc (.cells #[.int .i64 6, .string nm, .string tx, .int .i64 st, .int .i64 n, .int .u64 kept] 41)).alloc (.cells #[.string ⟨#[]⟩, .int .i64 0] 37)) (w.heap.size + 1) [.string ⟨#[]⟩, .int .i64 0] 37 := Row.new (cs := [.string ⟨#[]⟩, .int .i64 0]) (by simp)
  generalize ((w.alloc (.cells #[.int .i64 6, .string nm, .string tx, .int .i64 st, .int .i64 n, .int .u64 kept] 41)).alloc (.cells #[.string ⟨#[]⟩, .int .i64 0] 37)) = x at *
  have q3 := Row.six r3
  have z3 := r3.lt
  have HR4 := hid r4
  clear r3 r4
  have HZ0 : Hid (Zat x B crash count) := Row.below h HB0.out h.lt
  have hBx : B < x.heap.size := by have := HB0.out.size; omega
  have hne : ¬ (w.heap.size + 1) ∈ [B] := by simp; omega
  have HNE := hid hne
  clear hne h
  go_wp2_with fail
  refine (zFail_any x B crash count n HZ0.out).mono ?_
  rintro e w1 ⟨rfl, h1, h2⟩
  have HH1 := hid h1
  have HH2 := hid h2
  have HR5 := hid (HR4.out.but h2.but HNE.out)
  have q4 := Row.two HR5.out
  have z4 := HR5.out.lt
  clear h1 h2 q3 z3
  go_wp2_with fail
  (try simp only [Exit.inBlock, Exit.then])
  refine bodyPost_ret (results_cell_row rfl _ _ (w.heap.size + 1) _ _ _ _ rfl (show _ = some (Obj.cells (List.toArray _) _) from (HR5.out.set 0 _).set 1 _) Try.underlying37 rfl (by kernel_rfl)) rfl ?_
  refine ⟨.zero crash (if crash = true then count else max n 0), rfl, ?_, zsEnd (Zstep.zs (Zstep.trans ⟨But.of_below HB0.out⟩ HH2.out) HH1.out hbB) HNE.out _ _⟩
  unfold Ab.fail
  cases crash <;> rfl
set_option maxRecDepth 100000 in
set_option maxHeartbeats 4000000 in
theorem doz_Restart (w : World) (B base : Nat) (crash : Bool) (count : Int) (op : Int) (nm tx : ByteArray) (st n : Int) (kept : Nat) (h : Zat w B crash count) (hbB : base ≤ B) (_hc : 0 ≤ count ∧ count ≤ 9223372036854775807) (_hnm : nm.size ≤ 300) (hop : op = 7) :
    Calls Try.prog 16 #[.pointer (some ⟨B, 0, none⟩), .agg #[.int .i64 op, .string nm, .string tx, .int .i64 st, .int .i64 n, .int .u64 kept]] w (DZPost base B (.zero crash count) ((([], 0), (zab crash count).restart kept)) w) := by
  subst hop
  have hlt := h.lt
  go_enter Try.func16, Try.ntmps16
  go_upto_region 1 with fail
  have HB0 : Hid (Below w.heap.size w ((w.alloc (.cells #[.int .i64 7, .string nm, .string tx, .int .i64 st, .int .i64 n, .int .u64 kept] 41)).alloc (.cells #[.string ⟨#[]⟩, .int .i64 0] 37))) := (Grow.alloc w _).trans (Grow.alloc _ _)
  have r3 : Row ((w.alloc (.cells #[.int .i64 7, .string nm, .string tx, .int .i64 st, .int .i64 n, .int .u64 kept] 41)).alloc (.cells #[.string ⟨#[]⟩, .int .i64 0] 37)) w.heap.size [.int .i64 7, .string nm, .string tx, .int .i64 st, .int .i64 n, .int .u64 kept] 41 := (Row.at w [.int .i64 7, .string nm, .string tx, .int .i64 st, .int .i64 n, .int .u64 kept] _).below (Grow.alloc _ _) (Row.at w [.int .i64 7, .string nm, .string tx, .int .i64 st, .int .i64 n, .int .u64 kept] _).lt
  have r4 : Row ((w.alloc (.cells #[.int .i64 7, .string nm, .string tx, .int .i64 st, .int .i64 n, .int .u64 kept] 41)).alloc (.cells #[.string ⟨#[]⟩, .int .i64 0] 37)) (w.heap.size + 1) [.string ⟨#[]⟩, .int .i64 0] 37 := Row.new (cs := [.string ⟨#[]⟩, .int .i64 0]) (by simp)
  generalize ((w.alloc (.cells #[.int .i64 7, .string nm, .string tx, .int .i64 st, .int .i64 n, .int .u64 kept] 41)).alloc (.cells #[.string ⟨#[]⟩, .int .i64 0] 37)) = x at *
  have q3 := Row.six r3
  have z3 := r3.lt
  have HR4 := hid r4
  clear r3 r4
  have HZ0 : Hid (Zat x B crash count) := Row.below h HB0.out h.lt
  have hBx : B < x.heap.size := by have := HB0.out.size; omega
  have hne : ¬ (w.heap.size + 1) ∈ [B] := by simp; omega
  have HNE := hid hne
  clear hne h
  go_wp2_with fail
  refine (zRestart_any x B crash count kept HZ0.out).mono ?_
  rintro e w1 ⟨rfl, h1, h2⟩
  have HH1 := hid h1
  have HH2 := hid h2
  have HR5 := hid (HR4.out.but h2.but HNE.out)
  have q4 := Row.two HR5.out
  have z4 := HR5.out.lt
  clear h1 h2 q3 z3
  go_wp2_with fail
  (try simp only [Exit.inBlock, Exit.then])
  refine bodyPost_ret (results_cell_row rfl _ _ (w.heap.size + 1) _ _ _ _ rfl (show _ = some (Obj.cells (List.toArray _) _) from (HR5.out.set 0 _).set 1 _) Try.underlying37 rfl (by kernel_rfl)) rfl ?_
  exact ⟨.zero false 0, rfl, rfl, zsEnd (Zstep.zs (Zstep.trans ⟨But.of_below HB0.out⟩ HH2.out) HH1.out hbB) HNE.out _ _⟩
set_option maxRecDepth 100000 in
set_option maxHeartbeats 4000000 in
theorem doz_none (w : World) (B base : Nat) (crash : Bool) (count : Int) (op : Int) (nm tx : ByteArray) (st n : Int) (kept : Nat) (h : Zat w B crash count) (hbB : base ≤ B) (_hc : 0 ≤ count ∧ count ≤ 9223372036854775807) (_hnm : nm.size ≤ 300) (hop : (op == 0) = false ∧ (op == 1) = false ∧ (op == 2) = false ∧ (op == 3) = false ∧ (op == 4) = false ∧ (op == 5) = false ∧ (op == 6) = false ∧ (op == 7) = false) :
    Calls Try.prog 16 #[.pointer (some ⟨B, 0, none⟩), .agg #[.int .i64 op, .string nm, .string tx, .int .i64 st, .int .i64 n, .int .u64 kept]] w (DZPost base B (.zero crash count) (([], 0), zab crash count) w) := by
  obtain ⟨o0, o1, o2, o3, o4, o5, o6, o7⟩ := hop
  have hlt := h.lt
  go_enter Try.func16, Try.ntmps16
  go_upto_region 1 with fail
  have HB0 : Hid (Below w.heap.size w ((w.alloc (.cells #[.int .i64 op, .string nm, .string tx, .int .i64 st, .int .i64 n, .int .u64 kept] 41)).alloc (.cells #[.string ⟨#[]⟩, .int .i64 0] 37))) := (Grow.alloc w _).trans (Grow.alloc _ _)
  have r3 : Row ((w.alloc (.cells #[.int .i64 op, .string nm, .string tx, .int .i64 st, .int .i64 n, .int .u64 kept] 41)).alloc (.cells #[.string ⟨#[]⟩, .int .i64 0] 37)) w.heap.size [.int .i64 op, .string nm, .string tx, .int .i64 st, .int .i64 n, .int .u64 kept] 41 := (Row.at w [.int .i64 op, .string nm, .string tx, .int .i64 st, .int .i64 n, .int .u64 kept] _).below (Grow.alloc _ _) (Row.at w [.int .i64 op, .string nm, .string tx, .int .i64 st, .int .i64 n, .int .u64 kept] _).lt
  have r4 : Row ((w.alloc (.cells #[.int .i64 op, .string nm, .string tx, .int .i64 st, .int .i64 n, .int .u64 kept] 41)).alloc (.cells #[.string ⟨#[]⟩, .int .i64 0] 37)) (w.heap.size + 1) [.string ⟨#[]⟩, .int .i64 0] 37 := Row.new (cs := [.string ⟨#[]⟩, .int .i64 0]) (by simp)
  generalize ((w.alloc (.cells #[.int .i64 op, .string nm, .string tx, .int .i64 st, .int .i64 n, .int .u64 kept] 41)).alloc (.cells #[.string ⟨#[]⟩, .int .i64 0] 37)) = x at *
  have q3 := Row.six r3
  have z3 := r3.lt
  have HR4 := hid r4
  clear r3 r4
  have HZ0 : Hid (Zat x B crash count) := Row.below h HB0.out h.lt
  have hne : ¬ (w.heap.size + 1) ∈ [B] := by simp; omega
  have HNE := hid hne
  have HR5 := HR4
  have q4 := Row.two HR4.out
  have z4 := HR4.out.lt
  clear hne h
  go_wp2_with fail
  (try simp only [Exit.inBlock, Exit.then])
  refine bodyPost_ret (results_cell_row rfl _ _ (w.heap.size + 1) _ _ _ _ rfl (show _ = some (Obj.cells (List.toArray _) _) from (HR5.out.set 0 _).set 1 _) Try.underlying37 rfl (by kernel_rfl)) rfl ?_
  exact ⟨.zero crash count, rfl, rfl, zsEnd (Zstep.zs ⟨But.of_below HB0.out⟩ HZ0.out hbB) HNE.out _ _⟩
theorem doz_any (w : World) (B base : Nat) (crash : Bool) (count : Int) (c : CallD) (h : Zat w B crash count) (hbB : base ≤ B) (hk : 0 ≤ count ∧ count ≤ 9223372036854775807) (hc : c.fit) :
    Calls Try.prog 16 #[.pointer (some ⟨B, 0, none⟩), .agg c.cells.toArray] w (DZPost base B (.zero crash count) ((zab crash count).call c) w) := by
  obtain ⟨op, nm, tx, st, n, kept⟩ := c
  obtain ⟨c1, c2, c3, c4⟩ := hc
  unfold Ab.call
  show Calls _ _ _ _ (DZPost base B (.zero crash count) (if op = 0 then _ else if op = 1 then _ else if op = 2 then _ else if op = 3 then _ else if op = 4 then _ else if op = 5 then _ else if op = 6 then _ else if op = 7 then _ else _) w)
  split
  · exact doz_Create w B base crash count op nm tx st n kept h hbB hk c1 (by assumption)
  split
  · exact doz_Append w B base crash count op nm tx st n kept h hbB hk c1 (by assumption)
  split
  · exact doz_Read w B base crash count op nm tx st n kept h hbB hk c1 (by assumption)
  split
  · exact doz_Sync w B base crash count op nm tx st n kept h hbB hk c1 (by assumption)
  split
  · exact doz_Rename w B base crash count op nm tx st n kept h hbB hk c1 (by assumption)
  split
  · exact doz_Remove w B base crash count op nm tx st n kept h hbB hk c1 (by assumption)
  split
  · exact doz_FailAfter w B base crash count op nm tx st n kept h hbB hk c1 (by assumption)
  split
  · exact doz_Restart w B base crash count op nm tx st n kept h hbB hk c1 (by assumption)
  · exact doz_none w B base crash count op nm tx st n kept h hbB hk c1 (by simp only [beq_eq_false_iff_ne]; omega)
theorem dozs_any (w : World) (B base : Nat) (z : ZS) (c : CallD) (h : z.At w B base) (g : z.ab.good) (hc : c.fit) (hbase : base ≤ w.heap.size) :
    Calls Try.prog 16 #[.pointer (some ⟨B, 0, none⟩), .agg c.cells.toArray] w (DZPost base B z (z.ab.call c) w) := by
  cases z with
  | st s =>
    have hf := ents_len s
    have gg : s.ab.good := g
    refine (do_any w B base s c h gg.ok (by have := gg.few; omega) hc hbase).mono ?_
    rintro e1 w' ⟨s', rfl, h3, h4⟩
    exact ⟨.st s', rfl, h3, h4.zs⟩
  | zero crash count =>
    have gg : (zab crash count).good := g
    exact doz_any w B base crash count c h.1 h.2 gg.ok.count hc
set_option maxHeartbeats 1000000 in
theorem nilopen_any (w : World) (nm : ByteArray) : Calls Try.prog 30 #[.pointer none, .string nm] w fun e w' => e = .returned (.tuple #[.pointer none, .int .i64 5]) ∧ w' = w := by
  go_enter Try.func30, Try.ntmps30
  go_wp2_with fail
  all_goals go_ret2
  all_goals exact ⟨rfl, rfl⟩
set_option maxHeartbeats 1000000 in
theorem nilCreate_any (w : World) (nm : ByteArray) : Calls Try.prog 10 #[.pointer none, .string nm] w fun e w' => e = .returned (.int .i64 5) ∧ w' = w := by
  have HO := hid (fun w nm => nilopen_any w nm)
  go_enter Try.func10, Try.ntmps10
  go_wp2_with (go_at_call 30; refine (HO.out _ _).mono ?_; rintro e w1 ⟨rfl, rfl⟩)
  all_goals go_ret
  all_goals exact ⟨rfl, rfl⟩
set_option maxHeartbeats 1000000 in
theorem nilSync_any (w : World) (nm : ByteArray) : Calls Try.prog 24 #[.pointer none, .string nm] w fun e w' => e = .returned (.int .i64 5) ∧ w' = w := by
  have HO := hid (fun w nm => nilopen_any w nm)
  go_enter Try.func24, Try.ntmps24
  go_wp2_with (go_at_call 30; refine (HO.out _ _).mono ?_; rintro e w1 ⟨rfl, rfl⟩)
  all_goals go_ret
  all_goals exact ⟨rfl, rfl⟩
set_option maxHeartbeats 1000000 in
theorem nilRemove_any (w : World) (nm : ByteArray) : Calls Try.prog 32 #[.pointer none, .string nm] w fun e w' => e = .returned (.int .i64 5) ∧ w' = w := by
  have HO := hid (fun w nm => nilopen_any w nm)
  go_enter Try.func32, Try.ntmps32
  go_wp2_with (go_at_call 30; refine (HO.out _ _).mono ?_; rintro e w1 ⟨rfl, rfl⟩)
  all_goals go_ret
  all_goals exact ⟨rfl, rfl⟩
set_option maxHeartbeats 1000000 in
theorem nilAppend_any (w : World) (nm tx : ByteArray) : Calls Try.prog 12 #[.pointer none, .string nm, .string tx] w fun e w' => e = .returned (.int .i64 5) ∧ w' = w := by
  have HO := hid (fun w nm => nilopen_any w nm)
  go_enter Try.func12, Try.ntmps12
  go_wp2_with (go_at_call 30; refine (HO.out _ _).mono ?_; rintro e w1 ⟨rfl, rfl⟩)
  all_goals go_ret
  all_goals exact ⟨rfl, rfl⟩
set_option maxHeartbeats 1000000 in
theorem nilRename_any (w : World) (nm tx : ByteArray) : Calls Try.prog 31 #[.pointer none, .string nm, .string tx] w fun e w' => e = .returned (.int .i64 5) ∧ w' = w := by
  have HO := hid (fun w nm => nilopen_any w nm)
  go_enter Try.func31, Try.ntmps31
  go_wp2_with (go_at_call 30; refine (HO.out _ _).mono ?_; rintro e w1 ⟨rfl, rfl⟩)
  all_goals go_ret
  all_goals exact ⟨rfl, rfl⟩
set_option maxHeartbeats 1000000 in
theorem nilRead_any (w : World) (nm : ByteArray) (i n : Int) : Calls Try.prog 13 #[.pointer none, .string nm, .int .i64 i, .int .i64 n] w fun e w' => e = .returned (.tuple #[.string ⟨#[]⟩, .int .i64 5]) ∧ w' = w := by
  have HO := hid (fun w nm => nilopen_any w nm)
  go_enter Try.func13, Try.ntmps13
  go_wp2_with (go_at_call 30; refine (HO.out _ _).mono ?_; rintro e w1 ⟨rfl, rfl⟩)
  all_goals go_ret2
  all_goals exact ⟨rfl, rfl⟩
set_option maxHeartbeats 1000000 in
theorem nilFailAfter_any (w : World) (n : Int) : Calls Try.prog 23 #[.pointer none, .int .i64 n] w fun e w' => e = .returned (.tuple #[]) ∧ w' = w := by
  go_enter Try.func23, Try.ntmps23
  go_wp2_with fail
  all_goals go_end0
  all_goals exact ⟨rfl, rfl⟩
set_option maxRecDepth 100000 in
set_option maxHeartbeats 1000000 in
theorem nilRestart_any (w : World) (kept : Nat) : Calls Try.prog 25 #[.pointer none, .int .u64 kept] w fun e w' => e = .returned (.tuple #[]) ∧ w' = w := by
  go_enter Try.func25, Try.ntmps25
  go_wp2_with fail
  all_goals (refine bodyPost_ret (results_none rfl _ _ _) rfl ?_)
  all_goals exact ⟨rfl, rfl⟩
set_option maxHeartbeats 1000000 in
theorem nilList_any (w : World) : Calls Try.prog 19 #[.pointer none] w fun e w' => e = .returned (.slice none 0 0) ∧ w' = w := by
  go_enter Try.func19, Try.ntmps19
  go_wp2_with fail
  all_goals go_ret
  all_goals exact ⟨rfl, rfl⟩
set_option maxHeartbeats 1000000 in
theorem nilUsed_any (w : World) : Calls Try.prog 20 #[.pointer none] w fun e w' => e = .returned (.int .i64 0) ∧ w' = w := by
  go_enter Try.func20, Try.ntmps20
  go_wp2_with fail
  all_goals go_ret
  all_goals exact ⟨rfl, rfl⟩
set_option maxHeartbeats 1000000 in
theorem nilPeak_any (w : World) : Calls Try.prog 21 #[.pointer none] w fun e w' => e = .returned (.int .i64 0) ∧ w' = w := by
  go_enter Try.func21, Try.ntmps21
  go_wp2_with fail
  all_goals go_ret
  all_goals exact ⟨rfl, rfl⟩
/-- A call on no store at all. -/
def nilErr (op : Int) : Int := if 0 ≤ op ∧ op ≤ 5 then 5 else 0
set_option maxRecDepth 100000 in
set_option maxHeartbeats 4000000 in
theorem donil_any (w : World) (op : Int) (nm tx : ByteArray) (st n : Int) (kept : Nat) :
    Calls Try.prog 16 #[.pointer none, .agg #[.int .i64 op, .string nm, .string tx, .int .i64 st, .int .i64 n, .int .u64 kept]] w fun e w' => e = .returned (.agg #[.string ⟨#[]⟩, .int .i64 (nilErr op)]) ∧ Below w.heap.size w w' := by
  have HE : Hid (∀ k : Int, nilErr op = k → nilErr op = k) := fun _ h => h
  have hcs : op = 0 ∨ op = 1 ∨ op = 2 ∨ op = 3 ∨ op = 4 ∨ op = 5 ∨ op = 6 ∨ op = 7 ∨ ((op == 0) = false ∧ (op == 1) = false ∧ (op == 2) = false ∧ (op == 3) = false ∧ (op == 4) = false ∧ (op == 5) = false ∧ (op == 6) = false ∧ (op == 7) = false) := by
    simp only [beq_eq_false_iff_ne]; omega
  have HN : Hid (((op == 0) = false ∧ (op == 1) = false ∧ (op == 2) = false ∧ (op == 3) = false ∧ (op == 4) = false ∧ (op == 5) = false ∧ (op == 6) = false ∧ (op == 7) = false) → nilErr op = 0) := by
    intro h
    simp only [beq_eq_false_iff_ne] at h
    unfold nilErr
    rw [if_neg (by omega)]
  rcases hcs with rfl | rfl | rfl | rfl | rfl | rfl | rfl | rfl | ⟨o0, o1, o2, o3, o4, o5, o6, o7⟩
  · go_enter Try.func16, Try.ntmps16
    go_upto_region 1 with fail
    have HB0 : Hid (Below w.heap.size w ((w.alloc (.cells #[.int .i64 0, .string nm, .string tx, .int .i64 st, .int .i64 n, .int .u64 kept] 41)).alloc (.cells #[.string ⟨#[]⟩, .int .i64 0] 37))) := (Grow.alloc w _).trans (Grow.alloc _ _)
    have r3 : Row ((w.alloc (.cells #[.int .i64 0, .string nm, .string tx, .int .i64 st, .int .i64 n, .int .u64 kept] 41)).alloc (.cells #[.string ⟨#[]⟩, .int .i64 0] 37)) w.heap.size [.int .i64 0, .string nm, .string tx, .int .i64 st, .int .i64 n, .int .u64 kept] 41 := (Row.at w [.int .i64 0, .string nm, .string tx, .int .i64 st, .int .i64 n, .int .u64 kept] _).below (Grow.alloc _ _) (Row.at w [.int .i64 0, .string nm, .string tx, .int .i64 st, .int .i64 n, .int .u64 kept] _).lt
    have r4 : Row ((w.alloc (.cells #[.int .i64 0, .string nm, .string tx, .int .i64 st, .int .i64 n, .int .u64 kept] 41)).alloc (.cells #[.string ⟨#[]⟩, .int .i64 0] 37)) (w.heap.size + 1) [.string ⟨#[]⟩, .int .i64 0] 37 := Row.new (cs := [.string ⟨#[]⟩, .int .i64 0]) (by simp)
    generalize ((w.alloc (.cells #[.int .i64 0, .string nm, .string tx, .int .i64 st, .int .i64 n, .int .u64 kept] 41)).alloc (.cells #[.string ⟨#[]⟩, .int .i64 0] 37)) = x at *
    have q3 := Row.six r3
    have z3 := r3.lt
    have HR4 := hid r4
    clear r3 r4
    have HR5 := HR4
    have q4 := Row.two HR4.out
    have z4 := HR4.out.lt
    clear HN
    go_wp2_with fail
    refine (nilCreate_any x nm).mono ?_
    rintro e w1 ⟨rfl, rfl⟩
    go_wp2_with fail
    (try simp only [Exit.inBlock, Exit.then])
    refine bodyPost_ret (results_cell_row rfl _ _ (w.heap.size + 1) _ _ _ _ rfl (show _ = some (Obj.cells (List.toArray _) _) from (HR5.out.set 0 _).set 1 _) Try.underlying37 rfl (by kernel_rfl)) rfl ?_
    exact ⟨rfl, (((HB0.out).setCell (p := ⟨w.heap.size + 1, 0, none⟩) (Nat.le_succ _) _).setCell (p := ⟨w.heap.size + 1, 1, none⟩) (Nat.le_succ _) _)⟩
  · go_enter Try.func16, Try.ntmps16
    go_upto_region 1 with fail
    have HB0 : Hid (Below w.heap.size w ((w.alloc (.cells #[.int .i64 1, .string nm, .string tx, .int .i64 st, .int .i64 n, .int .u64 kept] 41)).alloc (.cells #[.string ⟨#[]⟩, .int .i64 0] 37))) := (Grow.alloc w _).trans (Grow.alloc _ _)
    have r3 : Row ((w.alloc (.cells #[.int .i64 1, .string nm, .string tx, .int .i64 st, .int .i64 n, .int .u64 kept] 41)).alloc (.cells #[.string ⟨#[]⟩, .int .i64 0] 37)) w.heap.size [.int .i64 1, .string nm, .string tx, .int .i64 st, .int .i64 n, .int .u64 kept] 41 := (Row.at w [.int .i64 1, .string nm, .string tx, .int .i64 st, .int .i64 n, .int .u64 kept] _).below (Grow.alloc _ _) (Row.at w [.int .i64 1, .string nm, .string tx, .int .i64 st, .int .i64 n, .int .u64 kept] _).lt
    have r4 : Row ((w.alloc (.cells #[.int .i64 1, .string nm, .string tx, .int .i64 st, .int .i64 n, .int .u64 kept] 41)).alloc (.cells #[.string ⟨#[]⟩, .int .i64 0] 37)) (w.heap.size + 1) [.string ⟨#[]⟩, .int .i64 0] 37 := Row.new (cs := [.string ⟨#[]⟩, .int .i64 0]) (by simp)
    generalize ((w.alloc (.cells #[.int .i64 1, .string nm, .string tx, .int .i64 st, .int .i64 n, .int .u64 kept] 41)).alloc (.cells #[.string ⟨#[]⟩, .int .i64 0] 37)) = x at *
    have q3 := Row.six r3
    have z3 := r3.lt
    have HR4 := hid r4
    clear r3 r4
    have HR5 := HR4
    have q4 := Row.two HR4.out
    have z4 := HR4.out.lt
    clear HN
    go_wp2_with fail
    refine (nilAppend_any x nm tx).mono ?_
    rintro e w1 ⟨rfl, rfl⟩
    go_wp2_with fail
    (try simp only [Exit.inBlock, Exit.then])
    refine bodyPost_ret (results_cell_row rfl _ _ (w.heap.size + 1) _ _ _ _ rfl (show _ = some (Obj.cells (List.toArray _) _) from (HR5.out.set 0 _).set 1 _) Try.underlying37 rfl (by kernel_rfl)) rfl ?_
    exact ⟨rfl, (((HB0.out).setCell (p := ⟨w.heap.size + 1, 0, none⟩) (Nat.le_succ _) _).setCell (p := ⟨w.heap.size + 1, 1, none⟩) (Nat.le_succ _) _)⟩
  · go_enter Try.func16, Try.ntmps16
    go_upto_region 1 with fail
    have HB0 : Hid (Below w.heap.size w ((w.alloc (.cells #[.int .i64 2, .string nm, .string tx, .int .i64 st, .int .i64 n, .int .u64 kept] 41)).alloc (.cells #[.string ⟨#[]⟩, .int .i64 0] 37))) := (Grow.alloc w _).trans (Grow.alloc _ _)
    have r3 : Row ((w.alloc (.cells #[.int .i64 2, .string nm, .string tx, .int .i64 st, .int .i64 n, .int .u64 kept] 41)).alloc (.cells #[.string ⟨#[]⟩, .int .i64 0] 37)) w.heap.size [.int .i64 2, .string nm, .string tx, .int .i64 st, .int .i64 n, .int .u64 kept] 41 := (Row.at w [.int .i64 2, .string nm, .string tx, .int .i64 st, .int .i64 n, .int .u64 kept] _).below (Grow.alloc _ _) (Row.at w [.int .i64 2, .string nm, .string tx, .int .i64 st, .int .i64 n, .int .u64 kept] _).lt
    have r4 : Row ((w.alloc (.cells #[.int .i64 2, .string nm, .string tx, .int .i64 st, .int .i64 n, .int .u64 kept] 41)).alloc (.cells #[.string ⟨#[]⟩, .int .i64 0] 37)) (w.heap.size + 1) [.string ⟨#[]⟩, .int .i64 0] 37 := Row.new (cs := [.string ⟨#[]⟩, .int .i64 0]) (by simp)
    generalize ((w.alloc (.cells #[.int .i64 2, .string nm, .string tx, .int .i64 st, .int .i64 n, .int .u64 kept] 41)).alloc (.cells #[.string ⟨#[]⟩, .int .i64 0] 37)) = x at *
    have q3 := Row.six r3
    have z3 := r3.lt
    have HR4 := hid r4
    clear r3 r4
    have HR5 := HR4
    have q4 := Row.two HR4.out
    have z4 := HR4.out.lt
    clear HN
    go_wp2_with fail
    refine (nilRead_any x nm st n).mono ?_
    rintro e w1 ⟨rfl, rfl⟩
    go_wp2_with fail
    (try simp only [Exit.inBlock, Exit.then])
    refine bodyPost_ret (results_cell_row rfl _ _ (w.heap.size + 1) _ _ _ _ rfl (show _ = some (Obj.cells (List.toArray _) _) from (HR5.out.set 0 _).set 1 _) Try.underlying37 rfl (by kernel_rfl)) rfl ?_
    exact ⟨rfl, (((HB0.out).setCell (p := ⟨w.heap.size + 1, 0, none⟩) (Nat.le_succ _) _).setCell (p := ⟨w.heap.size + 1, 1, none⟩) (Nat.le_succ _) _)⟩
  · go_enter Try.func16, Try.ntmps16
    go_upto_region 1 with fail
    have HB0 : Hid (Below w.heap.size w ((w.alloc (.cells #[.int .i64 3, .string nm, .string tx, .int .i64 st, .int .i64 n, .int .u64 kept] 41)).alloc (.cells #[.string ⟨#[]⟩, .int .i64 0] 37))) := (Grow.alloc w _).trans (Grow.alloc _ _)
    have r3 : Row ((w.alloc (.cells #[.int .i64 3, .string nm, .string tx, .int .i64 st, .int .i64 n, .int .u64 kept] 41)).alloc (.cells #[.string ⟨#[]⟩, .int .i64 0] 37)) w.heap.size [.int .i64 3, .string nm, .string tx, .int .i64 st, .int .i64 n, .int .u64 kept] 41 := (Row.at w [.int .i64 3, .string nm, .string tx, .int .i64 st, .int .i64 n, .int .u64 kept] _).below (Grow.alloc _ _) (Row.at w [.int .i64 3, .string nm, .string tx, .int .i64 st, .int .i64 n, .int .u64 kept] _).lt
    have r4 : Row ((w.alloc (.cells #[.int .i64 3, .string nm, .string tx, .int .i64 st, .int .i64 n, .int .u64 kept] 41)).alloc (.cells #[.string ⟨#[]⟩, .int .i64 0] 37)) (w.heap.size + 1) [.string ⟨#[]⟩, .int .i64 0] 37 := Row.new (cs := [.string ⟨#[]⟩, .int .i64 0]) (by simp)
    generalize ((w.alloc (.cells #[.int .i64 3, .string nm, .string tx, .int .i64 st, .int .i64 n, .int .u64 kept] 41)).alloc (.cells #[.string ⟨#[]⟩, .int .i64 0] 37)) = x at *
    have q3 := Row.six r3
    have z3 := r3.lt
    have HR4 := hid r4
    clear r3 r4
    have HR5 := HR4
    have q4 := Row.two HR4.out
    have z4 := HR4.out.lt
    clear HN
    go_wp2_with fail
    refine (nilSync_any x nm).mono ?_
    rintro e w1 ⟨rfl, rfl⟩
    go_wp2_with fail
    (try simp only [Exit.inBlock, Exit.then])
    refine bodyPost_ret (results_cell_row rfl _ _ (w.heap.size + 1) _ _ _ _ rfl (show _ = some (Obj.cells (List.toArray _) _) from (HR5.out.set 0 _).set 1 _) Try.underlying37 rfl (by kernel_rfl)) rfl ?_
    exact ⟨rfl, (((HB0.out).setCell (p := ⟨w.heap.size + 1, 0, none⟩) (Nat.le_succ _) _).setCell (p := ⟨w.heap.size + 1, 1, none⟩) (Nat.le_succ _) _)⟩
  · go_enter Try.func16, Try.ntmps16
    go_upto_region 1 with fail
    have HB0 : Hid (Below w.heap.size w ((w.alloc (.cells #[.int .i64 4, .string nm, .string tx, .int .i64 st, .int .i64 n, .int .u64 kept] 41)).alloc (.cells #[.string ⟨#[]⟩, .int .i64 0] 37))) := (Grow.alloc w _).trans (Grow.alloc _ _)
    have r3 : Row ((w.alloc (.cells #[.int .i64 4, .string nm, .string tx, .int .i64 st, .int .i64 n, .int .u64 kept] 41)).alloc (.cells #[.string ⟨#[]⟩, .int .i64 0] 37)) w.heap.size [.int .i64 4, .string nm, .string tx, .int .i64 st, .int .i64 n, .int .u64 kept] 41 := (Row.at w [.int .i64 4, .string nm, .string tx, .int .i64 st, .int .i64 n, .int .u64 kept] _).below (Grow.alloc _ _) (Row.at w [.int .i64 4, .string nm, .string tx, .int .i64 st, .int .i64 n, .int .u64 kept] _).lt
    have r4 : Row ((w.alloc (.cells #[.int .i64 4, .string nm, .string tx, .int .i64 st, .int .i64 n, .int .u64 kept] 41)).alloc (.cells #[.string ⟨#[]⟩, .int .i64 0] 37)) (w.heap.size + 1) [.string ⟨#[]⟩, .int .i64 0] 37 := Row.new (cs := [.string ⟨#[]⟩, .int .i64 0]) (by simp)
    generalize ((w.alloc (.cells #[.int .i64 4, .string nm, .string tx, .int .i64 st, .int .i64 n, .int .u64 kept] 41)).alloc (.cells #[.string ⟨#[]⟩, .int .i64 0] 37)) = x at *
    have q3 := Row.six r3
    have z3 := r3.lt
    have HR4 := hid r4
    clear r3 r4
    have HR5 := HR4
    have q4 := Row.two HR4.out
    have z4 := HR4.out.lt
    clear HN
    go_wp2_with fail
    refine (nilRename_any x nm tx).mono ?_
    rintro e w1 ⟨rfl, rfl⟩
    go_wp2_with fail
    (try simp only [Exit.inBlock, Exit.then])
    refine bodyPost_ret (results_cell_row rfl _ _ (w.heap.size + 1) _ _ _ _ rfl (show _ = some (Obj.cells (List.toArray _) _) from (HR5.out.set 0 _).set 1 _) Try.underlying37 rfl (by kernel_rfl)) rfl ?_
    exact ⟨rfl, (((HB0.out).setCell (p := ⟨w.heap.size + 1, 0, none⟩) (Nat.le_succ _) _).setCell (p := ⟨w.heap.size + 1, 1, none⟩) (Nat.le_succ _) _)⟩
  · go_enter Try.func16, Try.ntmps16
    go_upto_region 1 with fail
    have HB0 : Hid (Below w.heap.size w ((w.alloc (.cells #[.int .i64 5, .string nm, .string tx, .int .i64 st, .int .i64 n, .int .u64 kept] 41)).alloc (.cells #[.string ⟨#[]⟩, .int .i64 0] 37))) := (Grow.alloc w _).trans (Grow.alloc _ _)
    have r3 : Row ((w.alloc (.cells #[.int .i64 5, .string nm, .string tx, .int .i64 st, .int .i64 n, .int .u64 kept] 41)).alloc (.cells #[.string ⟨#[]⟩, .int .i64 0] 37)) w.heap.size [.int .i64 5, .string nm, .string tx, .int .i64 st, .int .i64 n, .int .u64 kept] 41 := (Row.at w [.int .i64 5, .string nm, .string tx, .int .i64 st, .int .i64 n, .int .u64 kept] _).below (Grow.alloc _ _) (Row.at w [.int .i64 5, .string nm, .string tx, .int .i64 st, .int .i64 n, .int .u64 kept] _).lt
    have r4 : Row ((w.alloc (.cells #[.int .i64 5, .string nm, .string tx, .int .i64 st, .int .i64 n, .int .u64 kept] 41)).alloc (.cells #[.string ⟨#[]⟩, .int .i64 0] 37)) (w.heap.size + 1) [.string ⟨#[]⟩, .int .i64 0] 37 := Row.new (cs := [.string ⟨#[]⟩, .int .i64 0]) (by simp)
    generalize ((w.alloc (.cells #[.int .i64 5, .string nm, .string tx, .int .i64 st, .int .i64 n, .int .u64 kept] 41)).alloc (.cells #[.string ⟨#[]⟩, .int .i64 0] 37)) = x at *
    have q3 := Row.six r3
    have z3 := r3.lt
    have HR4 := hid r4
    clear r3 r4
    have HR5 := HR4
    have q4 := Row.two HR4.out
    have z4 := HR4.out.lt
    clear HN
    go_wp2_with fail
    refine (nilRemove_any x nm).mono ?_
    rintro e w1 ⟨rfl, rfl⟩
    go_wp2_with fail
    (try simp only [Exit.inBlock, Exit.then])
    refine bodyPost_ret (results_cell_row rfl _ _ (w.heap.size + 1) _ _ _ _ rfl (show _ = some (Obj.cells (List.toArray _) _) from (HR5.out.set 0 _).set 1 _) Try.underlying37 rfl (by kernel_rfl)) rfl ?_
    exact ⟨rfl, (((HB0.out).setCell (p := ⟨w.heap.size + 1, 0, none⟩) (Nat.le_succ _) _).setCell (p := ⟨w.heap.size + 1, 1, none⟩) (Nat.le_succ _) _)⟩
  · go_enter Try.func16, Try.ntmps16
    go_upto_region 1 with fail
    have HB0 : Hid (Below w.heap.size w ((w.alloc (.cells #[.int .i64 6, .string nm, .string tx, .int .i64 st, .int .i64 n, .int .u64 kept] 41)).alloc (.cells #[.string ⟨#[]⟩, .int .i64 0] 37))) := (Grow.alloc w _).trans (Grow.alloc _ _)
    have r3 : Row ((w.alloc (.cells #[.int .i64 6, .string nm, .string tx, .int .i64 st, .int .i64 n, .int .u64 kept] 41)).alloc (.cells #[.string ⟨#[]⟩, .int .i64 0] 37)) w.heap.size [.int .i64 6, .string nm, .string tx, .int .i64 st, .int .i64 n, .int .u64 kept] 41 := (Row.at w [.int .i64 6, .string nm, .string tx, .int .i64 st, .int .i64 n, .int .u64 kept] _).below (Grow.alloc _ _) (Row.at w [.int .i64 6, .string nm, .string tx, .int .i64 st, .int .i64 n, .int .u64 kept] _).lt
    have r4 : Row ((w.alloc (.cells #[.int .i64 6, .string nm, .string tx, .int .i64 st, .int .i64 n, .int .u64 kept] 41)).alloc (.cells #[.string ⟨#[]⟩, .int .i64 0] 37)) (w.heap.size + 1) [.string ⟨#[]⟩, .int .i64 0] 37 := Row.new (cs := [.string ⟨#[]⟩, .int .i64 0]) (by simp)
    generalize ((w.alloc (.cells #[.int .i64 6, .string nm, .string tx, .int .i64 st, .int .i64 n, .int .u64 kept] 41)).alloc (.cells #[.string ⟨#[]⟩, .int .i64 0] 37)) = x at *
    have q3 := Row.six r3
    have z3 := r3.lt
    have HR4 := hid r4
    clear r3 r4
    have HR5 := HR4
    have q4 := Row.two HR4.out
    have z4 := HR4.out.lt
    clear HN
    go_wp2_with fail
    refine (nilFailAfter_any x n).mono ?_
    rintro e w1 ⟨rfl, rfl⟩
    go_wp2_with fail
    (try simp only [Exit.inBlock, Exit.then])
    refine bodyPost_ret (results_cell_row rfl _ _ (w.heap.size + 1) _ _ _ _ rfl (show _ = some (Obj.cells (List.toArray _) _) from (HR5.out.set 0 _).set 1 _) Try.underlying37 rfl (by kernel_rfl)) rfl ?_
    exact ⟨rfl, (((HB0.out).setCell (p := ⟨w.heap.size + 1, 0, none⟩) (Nat.le_succ _) _).setCell (p := ⟨w.heap.size + 1, 1, none⟩) (Nat.le_succ _) _)⟩
  · go_enter Try.func16, Try.ntmps16
    go_upto_region 1 with fail
    have HB0 : Hid (Below w.heap.size w ((w.alloc (.cells #[.int .i64 7, .string nm, .string tx, .int .i64 st, .int .i64 n, .int .u64 kept] 41)).alloc (.cells #[.string ⟨#[]⟩, .int .i64 0] 37))) := (Grow.alloc w _).trans (Grow.alloc _ _)
    have r3 : Row ((w.alloc (.cells #[.int .i64 7, .string nm, .string tx, .int .i64 st, .int .i64 n, .int .u64 kept] 41)).alloc (.cells #[.string ⟨#[]⟩, .int .i64 0] 37)) w.heap.size [.int .i64 7, .string nm, .string tx, .int .i64 st, .int .i64 n, .int .u64 kept] 41 := (Row.at w [.int .i64 7, .string nm, .string tx, .int .i64 st, .int .i64 n, .int .u64 kept] _).below (Grow.alloc _ _) (Row.at w [.int .i64 7, .string nm, .string tx, .int .i64 st, .int .i64 n, .int .u64 kept] _).lt
    have r4 : Row ((w.alloc (.cells #[.int .i64 7, .string nm, .string tx, .int .i64 st, .int .i64 n, .int .u64 kept] 41)).alloc (.cells #[.string ⟨#[]⟩, .int .i64 0] 37)) (w.heap.size + 1) [.string ⟨#[]⟩, .int .i64 0] 37 := Row.new (cs := [.string ⟨#[]⟩, .int .i64 0]) (by simp)
    generalize ((w.alloc (.cells #[.int .i64 7, .string nm, .string tx, .int .i64 st, .int .i64 n, .int .u64 kept] 41)).alloc (.cells #[.string ⟨#[]⟩, .int .i64 0] 37)) = x at *
    have q3 := Row.six r3
    have z3 := r3.lt
    have HR4 := hid r4
    clear r3 r4
    have HR5 := HR4
    have q4 := Row.two HR4.out
    have z4 := HR4.out.lt
    clear HN
    go_wp2_with fail
    refine (nilRestart_any x kept).mono ?_
    rintro e w1 ⟨rfl, rfl⟩
    go_wp2_with fail
    (try simp only [Exit.inBlock, Exit.then])
    refine bodyPost_ret (results_cell_row rfl _ _ (w.heap.size + 1) _ _ _ _ rfl (show _ = some (Obj.cells (List.toArray _) _) from (HR5.out.set 0 _).set 1 _) Try.underlying37 rfl (by kernel_rfl)) rfl ?_
    exact ⟨rfl, (((HB0.out).setCell (p := ⟨w.heap.size + 1, 0, none⟩) (Nat.le_succ _) _).setCell (p := ⟨w.heap.size + 1, 1, none⟩) (Nat.le_succ _) _)⟩
  · go_enter Try.func16, Try.ntmps16
    go_upto_region 1 with fail
    have HB0 : Hid (Below w.heap.size w ((w.alloc (.cells #[.int .i64 op, .string nm, .string tx, .int .i64 st, .int .i64 n, .int .u64 kept] 41)).alloc (.cells #[.string ⟨#[]⟩, .int .i64 0] 37))) := (Grow.alloc w _).trans (Grow.alloc _ _)
    have r3 : Row ((w.alloc (.cells #[.int .i64 op, .string nm, .string tx, .int .i64 st, .int .i64 n, .int .u64 kept] 41)).alloc (.cells #[.string ⟨#[]⟩, .int .i64 0] 37)) w.heap.size [.int .i64 op, .string nm, .string tx, .int .i64 st, .int .i64 n, .int .u64 kept] 41 := (Row.at w [.int .i64 op, .string nm, .string tx, .int .i64 st, .int .i64 n, .int .u64 kept] _).below (Grow.alloc _ _) (Row.at w [.int .i64 op, .string nm, .string tx, .int .i64 st, .int .i64 n, .int .u64 kept] _).lt
    have r4 : Row ((w.alloc (.cells #[.int .i64 op, .string nm, .string tx, .int .i64 st, .int .i64 n, .int .u64 kept] 41)).alloc (.cells #[.string ⟨#[]⟩, .int .i64 0] 37)) (w.heap.size + 1) [.string ⟨#[]⟩, .int .i64 0] 37 := Row.new (cs := [.string ⟨#[]⟩, .int .i64 0]) (by simp)
    generalize ((w.alloc (.cells #[.int .i64 op, .string nm, .string tx, .int .i64 st, .int .i64 n, .int .u64 kept] 41)).alloc (.cells #[.string ⟨#[]⟩, .int .i64 0] 37)) = x at *
    have q3 := Row.six r3
    have z3 := r3.lt
    have HR4 := hid r4
    clear r3 r4
    have HZ := hid (HN.out ⟨o0, o1, o2, o3, o4, o5, o6, o7⟩)
    have HR5 := HR4
    have q4 := Row.two HR4.out
    have z4 := HR4.out.lt
    clear HN
    go_wp2_with fail
    (try simp only [Exit.inBlock, Exit.then])
    refine bodyPost_ret (results_cell_row rfl _ _ (w.heap.size + 1) _ _ _ _ rfl (show _ = some (Obj.cells (List.toArray _) _) from (HR5.out.set 0 _).set 1 _) Try.underlying37 rfl (by kernel_rfl)) rfl ?_
    exact ⟨by rw [HZ.out]; rfl, HB0.out.trans ((Below.refl _ _).setCell (by simp) _ |>.setCell (by simp) _)⟩
end Go.Proofs.Ytnncbbfbnccnbaa
