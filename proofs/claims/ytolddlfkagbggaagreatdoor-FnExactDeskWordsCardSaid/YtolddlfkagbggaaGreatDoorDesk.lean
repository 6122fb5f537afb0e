/-
  The Go function laws.FnExactDeskWords returns true from every world, and what lay in memory before the call is left as it was: proved here from one contract of slices.Sort at strings ('SortStrings'), which is laid in the text Shelf. Conditions: none beyond that contract.
  Each function that the law calls is walked once: the map of commands, the sorted list of its keys, the reference's list, the loops that compare, mark and look again.
-/
import Derived.Test.YtolddlfkagbggaaGreatDoorChecked
import Derived.Sort.KeysCollected
import Derived.Sort.OwnSorted
import Derived.Maps.AppendAt
import Derived.Maps.RangeWalk
import Derived.Laws.OwnMore
import Derived.WalkKit
import Derived.WalkSpells
import Derived.WalkLawsBesides
import Derived.BigQuiet
import Derived.Deep.QuietTactic
import Derived.Deep.RegionHeld3
import Derived.Lib.Hide
import Derived.Lib.SlBytesConst
import Derived.Lib.ConvBytes
import Derived.Handy
namespace Go.Proofs.YtolddlfkagbggaaGreatDoor
open Go.RowKit Go.Maps Go.Sort

theorem keyed9 : Keyed Tryz.prog 9 := string_keyed Tryz.underlying9

/-- How an element of the map of commands reads: it is never looked at. -/
def anyElem (_ : Value) : Option (DataW Unit × List MemPlace) := some (.nil, [])

/-- The map in block b has been filled with n entries of datum D since w. -/
def Filled (w : World) (b : Nat) (W : World) (n : Nat) (D : DataW Unit) : Prop :=
  W.ownsMap Tryz.prog 9 anyElem b n D ∧ Below w.heap.size w W ∧ w.heap.size ≤ b

theorem filled_start (w : World) : Filled w w.heap.size (w.alloc (.map #[] 0)) 0 (.map []) :=
  ⟨World.ownsMap_made _ _ _ _, (Below.refl _ _).alloc (Nat.le_refl _) _, Nat.le_refl _⟩

/-- 'insert' at the operation: as a store into a map of the call's own. -/
theorem wpList_insert_own {ops : Array Oper} {rest : List Oper} {o : Oper} {a : Act} {Q : Exit → Act → World → Prop} {W : World}
    (hg : o.guard = none) (m x v : Operand) (hop : o.op = Op.insert 27 m x v) (b n : Nat) (D : DataW Unit)
    (hm : a.eval m = .map (some b)) (hown : W.ownsMap Tryz.prog 9 anyElem b n D) (hn : n < maxLen) (key val : Value) (kl : Lit) (hx : a.eval x = key) (hv : a.eval v = val) (hkey : keyOf Tryz.prog 9 key = some kl)
    (hK : ∀ w', w'.ownsMap Tryz.prog 9 anyElem b (n + 1) (D.put kl .nil) → W.grownBy w' (some b) → wpList Tryz.prog ops Q rest (a.put o.dst undef) w') :
    wpList Tryz.prog ops Q (o :: rest) a W := by
  refine wpList_plain hg fun K' hK' => ?_
  obtain ⟨w', hrun, r1, r2⟩ := hown.update keyed9 Tryz.underlying27 hn hkey (show anyElem val = some (.nil, []) from rfl)
  unfold Oper.wp
  simp [execOp, hop, hm, hx, hv, hrun, Result.andThen]
  exact hK' _ _ (hK w' r1 r2)

/-- One entry of a map's literal. -/
theorem wpList_insert_filled {ops : Array Oper} {rest : List Oper} {o : Oper} {a : Act} {Q : Exit → Act → World → Prop} {W : World} (w : World) (b n : Nat) (D : DataW Unit)
    (hg : o.guard = none) (m x v : Operand) (hop : o.op = Op.insert 27 m x v) (hm : a.eval m = .map (some b)) (h : Filled w b W n D) (hn : n < 100) (l : List UInt8) (hx : a.eval x = encStr l) (hl : l.length < 100)
    (hK : ∀ W', Filled w b W' (n + 1) (D.put (.string l) .nil) → wpList Tryz.prog ops Q rest (a.put o.dst undef) W') :
    wpList Tryz.prog ops Q (o :: rest) a W :=
  wpList_insert_own hg m x v hop b n D hm h.1 (by unfold maxLen; omega) _ _ (.string l) hx rfl
    (WideMaps.keyOf_string_mk Tryz.underlying9 (s := ⟨l.toArray⟩) (by show l.toArray.size ≤ maxLen; rw [List.size_toArray]; unfold maxLen; omega))
    fun w' r1 r2 => hK w' ⟨r1, h.2.1.grown r2 h.2.1.size (fun j hj => by cases hj; exact h.2.2), h.2.2⟩

def deskKeys : List (List UInt8) := [[110, 101, 119], [112, 108, 97, 121], [101, 120, 99, 104, 97, 110, 103, 101], [112, 97, 115, 115], [99, 104, 97, 108, 108, 101, 110, 103, 101], [98, 111, 116], [104, 105, 110, 116], [108, 111, 115, 115], [115, 104, 111, 119], [117, 110, 115, 101, 101, 110], [115, 111, 108, 118, 101], [119, 105, 110, 110, 101, 114], [99, 104, 101, 99, 107], [97, 110, 97, 103, 114, 97, 109, 115], [110, 117, 109, 98, 101, 114], [119, 111, 114, 100], [102, 114, 111, 110, 116], [99, 114, 111, 115, 115]]
def deskList : List (List UInt8) := [[97, 110, 97, 103, 114, 97, 109, 115], [98, 111, 116], [99, 104, 97, 108, 108, 101, 110, 103, 101], [99, 104, 101, 99, 107], [99, 114, 111, 115, 115], [101, 120, 99, 104, 97, 110, 103, 101], [102, 114, 111, 110, 116], [104, 105, 110, 116], [108, 111, 115, 115], [110, 101, 119], [110, 117, 109, 98, 101, 114], [112, 97, 115, 115], [112, 108, 97, 121], [115, 104, 111, 119], [115, 111, 108, 118, 101], [117, 110, 115, 101, 101, 110], [119, 105, 110, 110, 101, 114], [119, 111, 114, 100]]
def deskData : DataW Unit := deskKeys.foldl (fun D k => D.put (.string k) .nil) (.map [])

set_option maxRecDepth 100000 in
set_option maxHeartbeats 1000000 in
/-- impl.commands: a map with the eighteen words. -/
theorem commands_any (w : World) : Calls Tryz.prog 10 #[] w fun e w' => e = .returned (.map (some w.heap.size)) ∧ Filled w w.heap.size w' 18 deskData := by
  have hmm := @run_makeMap Tryz.prog
  have hF := filled_start w
  go_enter Tryz.func10, Tryz.ntmps10
  go_wp2_with (refine wpList_insert_filled w w.heap.size _ _ rfl _ _ _ rfl rfl hF (by decide) _ rfl (by decide) ?_; clear hF; intro _ hF)
  go_ret
  exact ⟨rfl, hF⟩

theorem info9 : (Tryz.prog.info? 9).map (fun i => (i.zero, i.size, i.bytes)) = some (some (.string ⟨#[]⟩), 1, 16) := by kernel_rfl

def SortStrings : Prop := ∀ (blk off cap : Nat) (ss : List (List UInt8)) (w : World), Holds encStr w blk off ss.toArray → blk < w.heap.size → ss.length < 4611686018427387904 →
  Calls Tryz.prog 11 #[.slice (some ⟨blk, off, none⟩) ss.length cap] w fun e w' => e = .returned (.tuple #[]) ∧ ∃ n os, w' = grow (putRow encStr (Sort.ahead w n) blk off (ss.mergeSort fun x y => decide (x ≤ y)).toArray) os

theorem desk_perm : (strKeys deskData).isPerm deskList = true := by decide +kernel
theorem desk_rises : deskList.Pairwise (fun x y => leB x y = true) := by decide +kernel
theorem desk_sorted (ss : List (List UInt8)) (h : ss.Perm (strKeys deskData)) : ss.mergeSort (fun x y => decide (x ≤ y)) = deskList := by
  have h1 : ss.Perm deskList := h.trans (List.isPerm_iff.1 desk_perm)
  have tr : ∀ a b c : List UInt8, leB a b = true → leB b c = true → leB a c = true := fun a b c h1 h2 => by simp only [leB, decide_eq_true_eq] at *; exact List.le_trans h1 h2
  have to : ∀ a b : List UInt8, (leB a b || leB b a) = true := fun a b => by simp only [leB, Bool.or_eq_true, decide_eq_true_eq]; exact List.le_total a b
  refine List.Perm.eq_of_pairwise (le := fun a b => leB a b = true) (fun a b _ _ h1 h2 => ?_) (List.pairwise_mergeSort tr to ss) desk_rises ((List.mergeSort_perm ss leB).trans h1)
  simp only [leB, decide_eq_true_eq] at h1 h2
  exact List.le_antisymm h1 h2

/-- A row of the call's own is no map. -/
theorem row_ne_map {W : World} {b n m base : Nat} {D : DataW Unit} {v : Value} {xs : List Value} {size : Nat} {e : TypeId} (h : W.ownsRow base e size v m xs) (hm : W.ownsMap Tryz.prog 9 anyElem b n D) : some b ≠ v.ownBlock := by
  obtain ⟨es, clock, hb, _⟩ := hm
  rcases h.2 with ⟨rfl, _⟩ | ⟨g, cap, cur, rfl, _, hg, _⟩
  · simp [Value.ownBlock]
  · intro e1
    obtain rfl : b = g := by simpa [Value.ownBlock] using e1
    rw [hb] at hg
    cases hg

set_option maxRecDepth 100000 in
set_option maxHeartbeats 1000000 in
theorem desk_any (hsort : SortStrings) (w : World) : Calls Tryz.prog 5 #[] w fun e w' => ∃ g cap : Nat, e = .returned (.slice (some ⟨g, 0, none⟩) 18 cap) ∧
    w'.ownsRow w.heap.size 9 1 (.slice (some ⟨g, 0, none⟩) 18 cap) 18 (deskList.map encStr) ∧ Below w.heap.size w w' := by
  obtain ⟨i0, hi, hz0, hz1, hz2⟩ := info_parts info9
  go_enter Tryz.func5, Tryz.ntmps5
  go_wp2_with fail
  refine (commands_any _).mono ?_
  rintro e w1 ⟨rfl, hF⟩
  have hsz : (w.alloc (.cells #[] 9)).heap.size = w.heap.size + 1 := by simp
  obtain ⟨hown, hb1, _⟩ := hF
  rw [hsz] at hown hb1 ⊢
  have hrow0 : (w.alloc (.cells #[] 9)).ownsRow w.heap.size 9 1 (.slice (some ⟨w.heap.size, 0, none⟩) 0 0) 0 [] := World.ownsRow_lit w #[] 0 (Nat.le_refl _) (by unfold maxLen; omega) rfl
  have hb0 : Below w.heap.size w w1 := ((Below.refl _ _).alloc (Nat.le_refl _) _).trans (hb1.mono (by omega))
  have hrow1 : w1.ownsRow w.heap.size 9 1 (.slice (some ⟨w.heap.size, 0, none⟩) 0 0) 0 [] := hrow0.kept (row := none) ⟨hb1.os, hb1.tape, hb1.output, by simpa using hb1.size, fun i hi _ => hb1.block i (by simpa using hi)⟩ (Or.inr (by simp [Value.ownBlock]))
  clear hb1 hrow0
  go_wp2_with (first | (at_range; refine wpList_range_own _ rfl _ 27 rfl 9 34 keyed9 Tryz.underlying27 anyElem _ 18 _ rfl hown ?_; intro w0 hrg0 hg0 hs0))
  go_frame
  have hsize : Maps.size deskData = 18 := by kernel_rfl
  go_loopw [1] (fun v wr => ∃ (left : Lit → Bool) (cnt : Nat) (ss : List (List UInt8)), wr.ranges Tryz.prog 9 anyElem (w.heap.size + 1) w1.heap.size 18 deskData left cnt ∧ ss.length + cnt ≤ 18 ∧
      wr.ownsRow w.heap.size 9 1 v ss.length (ss.map encStr) ∧ v ≠ .slice none 0 0 ∧ Collected deskData left ss ∧ Below w.heap.size w wr)
    (fun _ wr => wr.rangeLeft (w.heap.size + 1) w1.heap.size)
  case atStart =>
    exact ⟨_, _, [], hrg0, by simp [hsize], hrow1.kept hg0 (Or.inr (by simp [Value.ownBlock])), by simp, Collected.start deskData, hb0.grown hg0 hb0.size (fun j hj => by cases hj)⟩
  case round =>
    obtain ⟨left, cnt, ss, hrg, hcs, hrow, hnn, hC, hnx⟩ := hrel
    go_wp2_with (first
      | (at_next; refine wpList_next_ranges _ rfl _ rfl 9 keyed9 anyElem encStr (fun v : Value => v) (fun key kl hk => by obtain ⟨x, hx, _⟩ := Maps.keyOf_str Tryz.underlying9 hk; exact ⟨x, hx⟩) (fun v y _ => ⟨v, rfl⟩) (w.heap.size + 1) w1.heap.size 18 _ _ _ rfl hrg ?_ ?_)
      | go_in)
    · intro hc0 hl0
      rcases hrow.2 with ⟨hnil, _⟩ | ⟨g, cap, cur, rfl, hbase, hb, h1, h2, h3, h4⟩
      · exact absurd hnil hnn
      have hH : Holds encStr wr g 0 ss.toArray := holds_of_block hb (by simpa using h4)
      have hgl : g < wr.heap.size := (Array.getElem?_eq_some_iff.1 hb).1
      have hc := hsort g 0 cap ss wr hH hgl (by omega)
      go_wp2_with (go_at_call 11; refine hc.mono ?_; rintro e w' ⟨rfl, nn, os, rfl⟩)
      go_ret
      have hP := hC.perm hrg.owns keyed9 Tryz.underlying9 hl0
      have hL : ss.length = 18 := by rw [hP.length_eq]; decide +kernel
      have hR := ownsRow_sorted (ts := ss.mergeSort fun x y => decide (x ≤ y)) (n := nn) (os := os) (by simp) hbase hb h1 h2 h3
      rw [desk_sorted ss hP, hL] at hR
      rw [hL]
      exact ⟨g, cap, rfl, by rw [desk_sorted ss hP]; exact hR, hnx.grown (grownBy_sorted _) hnx.size (fun j hj => by cases hj; exact hbase)⟩
    · intro x c kl yd yp w2 cnt2 hkey hlk hv hat hrg2 hlt hg2 hs2 hen
      obtain ⟨x', ex, rfl, hxl⟩ := Maps.keyOf_str Tryz.underlying9 hkey
      obtain rfl : x = x' := encStr_inj ex
      have hrow2 := hrow.kept hg2 (Or.inr (row_ne_iter hrow hrg).symm)
      clear hs2 hkey hv
      go_wp2_with (first
        | (at_builtin; refine wpList_append_own _ rfl _ _ 22 rfl w.heap.size 9 i0 (.string ⟨#[]⟩) 1 16 Tryz.underlying22 hi hz0 hz1 hz2 rfl (by decide) _ _ _ rfl (hrow2.alloc _) ⟨w2.heap.size, 0, none⟩ 1 1 [encStr x] rfl rfl (cell_one_new _ _ _) (by simp [Value.oneCell', encStr]) (by unfold maxLen at *; omega) (by omega) (by have := hnx.size; have := hg2.size; simp; omega) ?_; intro v' w3 hown' hg3 hnil3; go_frame)
        | go_in)
      have hrg3 := (hrg2.alloc _).kept hg3 (row_ne_map hrow2 hrg2.owns) (row_ne_iter hrow2 hrg2)
      go_roundw
      case rel =>
        refine ⟨_, cnt2, ss ++ [x], hrg3, by simp; omega, by simpa using hown', fun hv' => by have := (hnil3.1 hv').2; omega, hC.step hlk hat, ?_⟩
        exact ((hnx.grown hg2 hnx.size (fun j hj => by cases hj; exact hb0.size)).alloc (by have := hnx.size; have := hg2.size; omega) _).grown hg3 (by have := hnx.size; have := hg2.size; simp; omega) (fun j hj => (hrow2.lt j hj).1)
      case measure => rw [hrg3.left_eq, hrg.left_eq]; exact hlt

/-! ### The reference's list, and the law's loops -/
def digs : Nat → Nat → List UInt8 → List UInt8
  | 0, _, out => out
  | f + 1, n, out => if n = 0 then out else digs f (n / 10) ((48 + UInt8.ofNat (n % 10)) :: out)
def markB (k : Nat) : List UInt8 := 109 :: digs k k []

theorem str_app (a b : List UInt8) : (⟨a.toArray⟩ : ByteArray) ++ ⟨b.toArray⟩ = ⟨(a ++ b).toArray⟩ := by
  apply ByteArray.ext
  simp [ByteArray.data_append]

/-- One byte, turned into a string. -/
theorem byte_string (W : World) (x : Int) : (convert 38 9 (.slice (some ⟨W.heap.size, 0, none⟩) 1 1)).run Tryz.prog (W.alloc (.cells #[.int .u8 x] 5)) = .ok (.string ⟨[UInt8.ofNat x.toNat].toArray⟩) (W.alloc (.cells #[.int .u8 x] 5)) :=
  run_convert_bytes_arg _ 38 5 Tryz.underlying38 Tryz.underlying5 W.heap.size 0 1 1 [x] rfl (fun i hi => by
    obtain rfl : i = 0 := by omega
    exact (cell_of_row _ _ 0 _ 5 (0, 0) (heap_alloc_new W (.cells #[.int .u8 x] 5))).trans rfl) 9 Tryz.underlying9

theorem digs_step (f m : Nat) (out : List UInt8) (hm : 0 < m) (hf : m ≤ f) : ∃ f', m / 10 ≤ f' ∧ digs f' (m / 10) ((48 + UInt8.ofNat (m % 10)) :: out) = digs f m out := by
  obtain ⟨f', rfl⟩ : ∃ f', f = f' + 1 := ⟨f - 1, by omega⟩
  exact ⟨f', by omega, by conv => rhs; unfold digs; rw [if_neg (by omega)]⟩
theorem digs_end (f : Nat) (out : List UInt8) : digs f 0 out = out := by cases f <;> simp [digs]

set_option maxRecDepth 100000 in
set_option maxHeartbeats 1000000 in
theorem mark_any (k : Nat) (hk : 0 < k) (hk2 : k < 100000) (w : World) : Calls Tryz.prog 12 #[.int .i64 k] w fun e w' => e = .returned (encStr (markB k)) ∧ Below w.heap.size w w' := by
  go_enter Tryz.func12, Tryz.ntmps12
  go_wp2
  go_loopw [0, 3] (fun a b wr => ∃ (m f : Nat) (out : List UInt8), a = .int .i64 m ∧ b = .string ⟨out.toArray⟩ ∧ m ≤ k ∧ m ≤ f ∧ out.length + m ≤ k ∧ digs f m out = digs k k [] ∧ Below w.heap.size w wr)
    (fun a _ _ => (intOf a).toNat)
  case atStart => exact ⟨k, k, [], rfl, rfl, by omega, by omega, by simp, rfl, Below.refl _ _⟩
  case round =>
    obtain ⟨m, f, out, rfl, rfl, h1, h2, h3, h4, h5⟩ := hrel
    have H4 := Lib.hid h4
    clear h4
    by_cases hm : 0 < m
    · have hcv := byte_string wr
      go_wp2
      go_roundw
      case rel =>
        obtain ⟨f', g1, g2⟩ := digs_step f m out hm h2
        refine ⟨m / 10, f', (48 + UInt8.ofNat (m % 10)) :: out, ?_, ?_, by omega, g1, by simp; omega, g2.trans H4.out, ?_⟩
        · go_num
        · rw [str_app]
          rfl
        · exact h5.alloc h5.size _
      case measure => simp [intOf]; omega
    · go_wp2
      go_ret
      obtain rfl : m = 0 := by omega
      refine ⟨?_, h5⟩
      have := H4.out
      rw [digs_end] at this
      subst this
      rfl

theorem mark_at (k : Nat) (h1 : k < 10000) (w : World) : Calls Tryz.prog 12 #[.int .i64 (1 + (k : Int))] w fun e w' => e = .returned (encStr (markB (1 + k))) ∧ Below w.heap.size w w' := by
  rw [show (1 + (k : Int)) = ((1 + k : Nat) : Int) from by omega]
  exact mark_any (1 + k) (by omega) (by omega) w

/-- The law's comparison of two equal lists of strings. -/
theorem eqS_any (g1 g2 c1 c2 : Nat) (xs : List (List UInt8)) (hn : xs.length < 1000) (w : World) (h1 : ∀ j, j < xs.length → w.cell? ⟨g1, j, none⟩ = some (encStr (xs.getD j [])))
    (h2 : ∀ j, j < xs.length → w.cell? ⟨g2, j, none⟩ = some (encStr (xs.getD j []))) :
    Calls Tryz.prog 6 #[.slice (some ⟨g1, 0, none⟩) xs.length c1, .slice (some ⟨g2, 0, none⟩) xs.length c2] w fun e w' => e = .returned (.bool true) ∧ ∃ m, w' = w.drewN m := by
  generalize hl : xs.length = n at *
  clear hl
  go_enter Tryz.func6, Tryz.ntmps6
  go_wp2
  go_loopw [5] (fun i wr => ∃ k m : Nat, k ≤ n ∧ i = .int .i64 k ∧ wr = w.drewN m) (fun i _ => n - (intOf i).toNat)
  case atStart => exact ⟨0, 0, by omega, rfl, rfl⟩
  case round =>
    obtain ⟨k, m, hk, rfl, rfl⟩ := hrel
    by_cases hlt : k < n
    · have g1' := h1 k hlt
      have g2' := h2 k hlt
      have i0 : (0 : Int) ≤ (k : Int) := by omega
      have i1 : (k : Int) < (n : Int) := by omega
      clear h1 h2
      go_wp2_with fail
      go_quiet (fail)
      go_wp2
      exact ⟨⟨k + 1, m + nq, by omega, by go_num, rfl⟩, by simp [intOf]; omega⟩
    · go_wp2
      go_ret
      exact ⟨rfl, m, rfl⟩

/-- Marks are laid into a list of strings of the call's own. -/
def marks (k n : Nat) : List Value := (List.range' k n).map fun j => encStr (markB j)

theorem marks_snoc (k : Nat) : marks 1 (k + 1) = marks 1 k ++ [encStr (markB (1 + k))] := by
  simp [marks, List.range'_concat]
theorem marks_length (k n : Nat) : (marks k n).length = n := by simp [marks]

theorem marks_set (k n : Nat) (xs : List Value) (hx : xs.length = n) (hk : k < n) : (marks 1 k ++ xs.drop k).set k (encStr (markB (1 + k))) = marks 1 (k + 1) ++ xs.drop (k + 1) := by
  rw [marks_snoc, List.set_append_right _ _ (by rw [marks_length]; omega), marks_length, Nat.sub_self, List.drop_eq_getElem_cons (by omega : k < xs.length), List.set_cons_zero, List.append_assoc]
  rfl

set_option maxRecDepth 100000 in
theorem markS_any (g c n base : Nat) (hn : n < 1000) (xs : List Value) (w : World) (hrow : w.ownsRow base 9 1 (.slice (some ⟨g, 0, none⟩) n c) n xs) :
    Calls Tryz.prog 7 #[.slice (some ⟨g, 0, none⟩) n c, .int .i64 1] w fun e w' => e = .returned (.int .i64 (n + 1)) ∧ w'.ownsRow base 9 1 (.slice (some ⟨g, 0, none⟩) n c) n (marks 1 n) ∧ w.grownBy w' (some g) := by
  go_enter Tryz.func7, Tryz.ntmps7
  go_wp2
  go_loopw [1, 5] (fun a i wr => ∃ k : Nat, k ≤ n ∧ a = .int .i64 (1 + k) ∧ i = .int .i64 k ∧ wr.ownsRow base 9 1 (.slice (some ⟨g, 0, none⟩) n c) n (marks 1 k ++ xs.drop k) ∧ w.grownBy wr (some g)) (fun _ i _ => n - (intOf i).toNat)
  case atStart => exact ⟨0, by omega, rfl, rfl, by simpa [marks] using hrow, World.grownBy.refl _ _⟩
  case round =>
    obtain ⟨k, hk, rfl, rfl, hr, hgw⟩ := hrel
    have hxl : xs.length = n := by simpa using hrow.1
    by_cases hlt : k < n
    · have HX := Lib.hid hxl
      clear hxl
      go_wp2_with fail
      refine (mark_at k (by omega) wr).mono ?_
      rintro e w1 ⟨rfl, hb⟩
      have hr1 := hr.kept (row := none) ⟨hb.os, hb.tape, hb.output, hb.size, fun i hi _ => hb.block i hi⟩ (Or.inr (by simp [Value.ownBlock]))
      obtain ⟨v0, hc1⟩ : ∃ v, w1.cell? ⟨g, k, none⟩ = some v := by
        have hl : (marks 1 k ++ xs.drop k).length = n := by have := HX.out; simp [marks_length]; omega
        exact ⟨_, (hr1.cellAt k (by omega)).trans (List.getElem?_eq_getElem (by omega))⟩
      have hf1 := hr1.frozenAt k
      have hgr : w.grownBy w1 (some g) := hgw.trans ⟨hb.os, hb.tape, hb.output, hb.size, fun i hi _ => hb.block i hi⟩
      have i0 : (0 : Int) ≤ (k : Int) := by omega
      have i1 : (k : Int) < (n : Int) := by omega
      go_wp2
      have hst := hr1.stored k (encStr (markB (1 + k)))
      rw [marks_set k n xs HX.out hlt] at hst
      exact ⟨⟨k + 1, by omega, by rw [show (1 : Int) + k + 1 = 1 + ((k + 1 : Nat) : Int) from by omega], by go_num, hst.1, hgr.trans hst.2⟩, by simp [intOf]; omega⟩
    · go_wp2
      go_ret
      obtain rfl : k = n := by omega
      rw [List.drop_of_length_le (by omega), List.append_nil] at hr
      exact ⟨congrArg (fun x => Ending.returned (.int .i64 x)) (by omega), hr, hgw⟩

set_option maxRecDepth 100000 in
/-- The marks are still there. -/
theorem heldS_any (g c n base : Nat) (hn : n < 1000) (w : World) (hrow : w.ownsRow base 9 1 (.slice (some ⟨g, 0, none⟩) n c) n (marks 1 n)) :
    Calls Tryz.prog 8 #[.slice (some ⟨g, 0, none⟩) n c, .int .i64 1] w fun e w' => e = .returned (.int .i64 (n + 1)) ∧ Below w.heap.size w w' := by
  go_enter Tryz.func8, Tryz.ntmps8
  go_wp2
  go_loopw [1, 5] (fun a i wr => ∃ k : Nat, k ≤ n ∧ a = .int .i64 (1 + k) ∧ i = .int .i64 k ∧ Below w.heap.size w wr) (fun _ i _ => n - (intOf i).toNat)
  case atStart => exact ⟨0, by omega, rfl, rfl, Below.refl _ _⟩
  case round =>
    obtain ⟨k, hk, rfl, rfl, hb⟩ := hrel
    by_cases hlt : k < n
    · have hc0 : wr.cell? ⟨g, k, none⟩ = some (encStr (markB (1 + k))) := by
        have h0 := (hrow.cellAt k (by omega)).trans (show (marks 1 n)[k]? = some (encStr (markB (1 + k))) by simp [marks, hlt])
        exact (hb.cell (World.block_lt_of_cell? w _ h0)).trans h0
      have hgl := World.block_lt_of_cell? wr _ hc0
      have i0 : (0 : Int) ≤ (k : Int) := by omega
      have i1 : (k : Int) < (n : Int) := by omega
      go_wp2_with fail
      go_region_held3 (fun w' => w'.cell? ⟨g, k, none⟩ = some (encStr (markB (1 + k)))) (first | go_keep | (rw [hb1.cell (by simpa using hgl)]; simpa using hc0)) ((go_at_call 12; refine (mark_at k (by omega) _).mono ?_; rintro e w1 ⟨rfl, hb1⟩))
      go_wp2
      exact ⟨⟨k + 1, by omega, by rw [show (1 : Int) + k + 1 = 1 + ((k + 1 : Nat) : Int) from by omega], by go_num, (show Below w.heap.size w wr.drew from ⟨hb.os, hb.tape, hb.output, hb.size, hb.block⟩).trans (hb1.mono (by have := hb.size; simpa using this))⟩, by simp [intOf]; omega⟩
    · go_wp2
      go_ret
      obtain rfl : k = n := by omega
      exact ⟨congrArg (fun x => Ending.returned (.int .i64 x)) (by omega), hb⟩

theorem specDesk_any (w : World) : Calls Tryz.prog 4 #[] w fun e w' => e = .returned (.slice (some ⟨w.heap.size, 0, none⟩) 18 18) ∧ w' = w.alloc (.cells (deskList.map encStr).toArray 9) := by
  go_enter Tryz.func4, Tryz.ntmps4
  go_wp2
  go_ret
  exact ⟨rfl, rfl⟩

theorem desk_length : deskList.length = 18 := by kernel_rfl

/-- The eighteen words lie in the cells of block g. -/
def Words (W : World) (g : Nat) : Prop := ∀ j, j < 18 → W.cell? ⟨g, j, none⟩ = some (encStr (deskList.getD j []))

theorem words_row {W : World} {base g c : Nat} (h : W.ownsRow base 9 1 (.slice (some ⟨g, 0, none⟩) 18 c) 18 (deskList.map encStr)) : Words W g := fun j hj => by
  rw [h.cellAt j (by omega)]
  have : j < deskList.length := by rw [desk_length]; exact hj
  simp [this]
theorem words_below {W W' : World} {g : Nat} (h : Words W g) (hb : Below W.heap.size W W') : Words W' g := fun j hj => (hb.cell (World.block_lt_of_cell? W _ (h j hj))).trans (h j hj)
theorem words_grown {W W' : World} {g k : Nat} (h : Words W g) (hg : W.grownBy W' (some k)) (hne : g ≠ k) : Words W' g := fun j hj => hg.cell (h j hj) (by simpa using hne)
theorem words_drewN {W : World} {g : Nat} (h : Words W g) (m : Nat) : Words (W.drewN m) g := fun j hj => by simpa using h j hj
theorem row_below {W W' : World} {base g c n : Nat} {xs : List Value} (h : W.ownsRow base 9 1 (.slice (some ⟨g, 0, none⟩) n c) n xs) (hb : Below W.heap.size W W') : W'.ownsRow base 9 1 (.slice (some ⟨g, 0, none⟩) n c) n xs :=
  h.kept (row := none) ⟨hb.os, hb.tape, hb.output, hb.size, fun i hi _ => hb.block i hi⟩ (Or.inr (by simp [Value.ownBlock]))
theorem below_drewN' {B : Nat} {a w : World} (h : Below B a w) (n : Nat) : Below B a (w.drewN n) := ⟨h.os, h.tape, h.output, h.size, h.block⟩
theorem row_drewN {W : World} {base : Nat} {v : Value} {n : Nat} {xs : List Value} (h : W.ownsRow base 9 1 v n xs) (m : Nat) : (W.drewN m).ownsRow base 9 1 v n xs := h

theorem eq_words (g1 g2 c1 c2 : Nat) (w : World) (h1 : Words w g1) (h2 : Words w g2) :
    Calls Tryz.prog 6 #[.slice (some ⟨g1, 0, none⟩) 18 c1, .slice (some ⟨g2, 0, none⟩) 18 c2] w fun e w' => e = .returned (.bool true) ∧ ∃ m, w' = w.drewN m := by
  have h := eqS_any g1 g2 c1 c2 deskList (by rw [desk_length]; omega) w (by rw [desk_length]; exact h1) (by rw [desk_length]; exact h2)
  rw [desk_length] at h
  exact h
theorem mark18 (g c base : Nat) (xs : List Value) (w : World) (hrow : w.ownsRow base 9 1 (.slice (some ⟨g, 0, none⟩) 18 c) 18 xs) :
    Calls Tryz.prog 7 #[.slice (some ⟨g, 0, none⟩) 18 c, .int .i64 1] w fun e w' => e = .returned (.int .i64 19) ∧ w'.ownsRow base 9 1 (.slice (some ⟨g, 0, none⟩) 18 c) 18 (marks 1 18) ∧ w.grownBy w' (some g) :=
  markS_any g c 18 base (by omega) xs w hrow
theorem held18 (g c base : Nat) (w : World) (hrow : w.ownsRow base 9 1 (.slice (some ⟨g, 0, none⟩) 18 c) 18 (marks 1 18)) :
    Calls Tryz.prog 8 #[.slice (some ⟨g, 0, none⟩) 18 c, .int .i64 1] w fun e w' => e = .returned (.int .i64 19) ∧ Below w.heap.size w w' :=
  heldS_any g c 18 base (by omega) w hrow

set_option maxRecDepth 100000 in
set_option maxHeartbeats 1000000 in
theorem law_any (hsort : SortStrings) (w : World) : Calls Tryz.prog 3 #[] w fun e w' => e = .returned (.bool true) ∧ Below w.heap.size w w' := by
  go_enter Tryz.func3, Tryz.ntmps3
  go_wp2_with fail
  refine (specDesk_any _).mono ?_
  rintro e w1 ⟨rfl, rfl⟩
  have hs1 : (w.alloc (.cells (deskList.map encStr).toArray 9)).heap.size = w.heap.size + 1 := by simp
  have hrow0 := World.ownsRow_lit (base := w.heap.size) (e := 9) (size := 1) w (deskList.map encStr).toArray 18 (Nat.le_refl _) (by unfold maxLen; omega) (by kernel_rfl)
  have hb1 : Below w.heap.size w (w.alloc (.cells (deskList.map encStr).toArray 9)) := (Below.refl _ _).alloc (Nat.le_refl _) _
  generalize w.alloc (.cells (deskList.map encStr).toArray 9) = W1 at *
  have hw1 : Words W1 w.heap.size := words_row (by simpa using hrow0)
  have HS1 := Lib.hid hs1
  clear hs1 hrow0
  go_wp2_with fail
  refine (desk_any hsort _).mono ?_
  rintro e w2 ⟨g, cap, rfl, hrow, hb2⟩
  have hne : w.heap.size ≠ g := by have := (hrow.lt g rfl).1; have := HS1.out; omega
  have hlt : w.heap.size ≤ g := by have := (hrow.lt g rfl).1; have := HS1.out; omega
  have hB2 : Below w.heap.size w w2 := hb1.trans (hb2.mono hb1.size)
  have hw2 := words_below hw1 hb2
  go_wp2_with fail
  refine (eq_words _ _ _ _ _ (words_row hrow) hw2).mono ?_
  rintro e w3 ⟨rfl, m3, rfl⟩
  go_wp2_with fail
  refine (mark18 _ _ _ _ _ (row_drewN hrow m3)).mono ?_
  rintro e w4 ⟨rfl, hrow4, hg4⟩
  have hw4 := words_grown (words_drewN hw2 m3) hg4 hne
  have hB4 : Below w.heap.size w w4 := (below_drewN' hB2 m3).grown hg4 hB2.size (fun j hj => by cases hj; exact hlt)
  go_wp2_with fail
  refine (held18 _ _ _ _ hrow4).mono ?_
  rintro e w5 ⟨rfl, hb5⟩
  have hw5 := words_below hw4 hb5
  have hrow5 := row_below hrow4 hb5
  have hB5 := hB4.trans (hb5.mono hB4.size)
  go_wp2_with fail
  refine (desk_any hsort _).mono ?_
  rintro e w6 ⟨g6, cap6, rfl, hrow6, hb6⟩
  have hw6 := words_below hw5 hb6
  have hr6 := row_below hrow5 hb6
  have hB6 := hB5.trans (hb6.mono hB5.size)
  go_wp2_with fail
  refine (eq_words _ _ _ _ _ (words_row hrow6) hw6).mono ?_
  rintro e w7 ⟨rfl, m7, rfl⟩
  go_wp2_with fail
  refine (held18 _ _ _ _ (row_drewN hr6 m7)).mono ?_
  rintro e w8 ⟨rfl, hb8⟩
  go_wp2
  go_ret
  exact ⟨rfl, (below_drewN' hB6 m7).trans (hb8.mono hB6.size)⟩

end Go.Proofs.YtolddlfkagbggaaGreatDoor
