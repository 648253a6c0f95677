/- The program's disk: how it lies in memory; the calls that only look at its head. -/
import Derived.Test.YtoilokfpfmicaaaDoorMaps
import Derived.Test.YtoilokfpfmicaaaDoorCells
import Derived.Test.YtoilokfpfmicaaaDoorProg
set_option linter.unusedVariables false
set_option linter.unusedSimpArgs false
namespace Go.Proofs.YtoilokfpfmicaaaDoor
open Go.RowKit
set_option maxHeartbeats 400000

/-- An extent: its four images, and whether it waits. -/
structure CellS where
  (rd du sy wr : List UInt8)
  waits : Bool
def CellS.vals (c : CellS) : List Value := c.rd.map BV ++ c.du.map BV ++ c.sy.map BV ++ c.wr.map BV ++ [.bool c.waits]
structure CellS.ok (c : CellS) : Prop where
  rd : c.rd.length = 128
  du : c.du.length = 128
  sy : c.sy.length = 128
  wr : c.wr.length = 128
/-- A file as it lies: its name, the row of its pointers, its extents with their blocks. -/
structure FileL where
  name : ByteArray
  g : Nat
  cap : Nat
  cs : List (Nat × CellS)
def FileL.val (f : FileL) : Value := .slice (some ⟨f.g, 0, none⟩) f.cs.length f.cap
def FileL.blocks (f : FileL) : List Nat := f.g :: f.cs.map (·.1)
def FileL.ptrs (f : FileL) : List Value := f.cs.map fun c => .pointer (some ⟨c.1, 0, none⟩)
structure DiskL where
  b : Nat
  m : Nat
  room : Int
  fuse : Int
  files : List FileL
def DiskL.blocks (d : DiskL) : List Nat := d.b :: d.m :: d.files.flatMap FileL.blocks
def DiskL.ents (d : DiskL) : List (ByteArray × Value) := d.files.map fun f => (f.name, f.val)
def DiskL.ptr (d : DiskL) : Value := .pointer (some ⟨d.b, 0, none⟩)
/-- How many extents there are. -/
def DiskL.used (d : DiskL) : Nat := (d.files.map fun f => f.cs.length).sum

structure DiskAt (w : World) (d : DiskL) : Prop where
  hdr : w.heap[d.b]? = some (.cells #[.int .i64 d.room, .map (some d.m), .int .i64 d.fuse] 38 (0, 0))
  map : MapA Value.string w d.m d.ents
  rows : ∀ f ∈ d.files, ∃ rest : List Value, w.heap[f.g]? = some (.cells (f.ptrs ++ rest).toArray 115 (0, 0)) ∧ f.cs.length + rest.length = f.cap ∧ f.cap ≤ maxLen
  cells : ∀ f ∈ d.files, ∀ c ∈ f.cs, w.heap[c.1]? = some (.cells c.2.vals.toArray 121 (0, 0)) ∧ c.2.ok
  apart : d.blocks.Nodup
  full : ∀ f ∈ d.files, f.cs ≠ []
  room0 : 0 ≤ d.room
  room1 : d.room ≤ 100000
  fits : (d.used : Int) ≤ d.room
  fuse0 : -1 ≤ d.fuse
  fuse1 : d.fuse ≤ 9223372036854775807

section
variable {w : World} {d : DiskL}
theorem DiskAt.c0 (h : DiskAt w d) : w.cell? ⟨d.b, 0, none⟩ = some (.int .i64 d.room) := by simp [World.cell?, h.hdr]
theorem DiskAt.c1 (h : DiskAt w d) : w.cell? ⟨d.b, 1, none⟩ = some (.map (some d.m)) := by simp [World.cell?, h.hdr]
theorem DiskAt.c2 (h : DiskAt w d) : w.cell? ⟨d.b, 2, none⟩ = some (.int .i64 d.fuse) := by simp [World.cell?, h.hdr]
theorem DiskAt.fz (h : DiskAt w d) (o : Nat) : w.frozen? ⟨d.b, o, none⟩ = false := by simp [World.frozen?, h.hdr]
theorem DiskAt.mem_lt (h : DiskAt w d) : ∀ k ∈ d.blocks, k < w.heap.size := by
  intro k hk
  simp only [DiskL.blocks, List.mem_cons, List.mem_flatMap] at hk
  rcases hk with rfl | rfl | ⟨f, hf, hk⟩
  · exact lt_of_heap h.hdr
  · exact h.map.lt
  · simp only [FileL.blocks, List.mem_cons, List.mem_map] at hk
    rcases hk with rfl | ⟨c, hc, rfl⟩
    · obtain ⟨rest, hr, _⟩ := h.rows f hf
      exact lt_of_heap hr
    · exact lt_of_heap (h.cells f hf c hc).1
/-- A disk none of whose blocks has turned lies there still. -/
theorem DiskAt.chg {S : Nat → Prop} {w' : World} (h : DiskAt w d) (k : Chg S w w') (hs : ∀ i ∈ d.blocks, ¬ S i) : DiskAt w' d where
  hdr := k.heap h.hdr (hs _ (by simp [DiskL.blocks]))
  map := h.map.chg k (hs _ (by simp [DiskL.blocks]))
  rows f hf := by
    obtain ⟨rest, hr, h2⟩ := h.rows f hf
    exact ⟨rest, k.heap hr (hs _ (by simp only [DiskL.blocks, List.mem_cons, List.mem_flatMap]; exact .inr (.inr ⟨f, hf, by simp [FileL.blocks]⟩))), h2⟩
  cells f hf c hc := ⟨k.heap (h.cells f hf c hc).1 (hs _ (by simp only [DiskL.blocks, List.mem_cons, List.mem_flatMap]; exact .inr (.inr ⟨f, hf, by simp only [FileL.blocks, List.mem_cons, List.mem_map]; exact .inr ⟨c, hc, rfl⟩⟩))), (h.cells f hf c hc).2⟩
  apart := h.apart
  full := h.full
  room0 := h.room0
  room1 := h.room1
  fits := h.fits
  fuse0 := h.fuse0
  fuse1 := h.fuse1
theorem DiskAt.below {w' : World} (h : DiskAt w d) (k : Below w.heap.size w w') : DiskAt w' d := h.chg (Chg.of_below (S := fun _ => False) k) (fun _ _ f => f)
theorem DiskAt.drewN (h : DiskAt w d) (n : Nat) : DiskAt (w.drewN n) d := h.below (below_drewN (Below.refl _ _) n)
end

theorem eqlMap (m : Option Nat) (w : World) : (binOp .eql 36 (.map m) (.map none)).run Tryd.prog w = .ok (.bool m.isNone) w :=
  run_eql_map_nil w 36 9 129 m Tryd.underlying36
attribute [local go_sem] eqlMap

theorem none_ok (d : DiskL) (w : World) (h : DiskAt w d) :
    Calls Tryd.prog 51 #[(.pointer (some ⟨d.b, 0, none⟩))] w fun e w' => e = .returned (.bool false) ∧ w = w' := by
  have h1 := h.c1
  clear h
  go_enter Tryd.func51, Tryd.ntmps51
  go_wp2
  go_ret
  simp

/-- A disk that no call made. -/
inductive NoDisk (w : World) : Value → Prop
  | nil : NoDisk w (.pointer none)
  | bare (b : Nat) (h : w.cell? ⟨b, 1, none⟩ = some (.map none)) : NoDisk w (.pointer (some ⟨b, 0, none⟩))
theorem none_no (v : Value) (w : World) (h : NoDisk w v) :
    Calls Tryd.prog 51 #[v] w fun e w' => e = .returned (.bool true) ∧ w = w' := by
  cases h with
  | nil =>
    go_enter Tryd.func51, Tryd.ntmps51
    go_wp2
    go_ret
    simp
  | bare b h1 =>
    go_enter Tryd.func51, Tryd.ntmps51
    go_wp2
    go_ret
    simp

theorem fuse_no (v : Value) (n : Int) (w : World) (h : NoDisk w v) :
    Calls Tryd.prog 28 #[v, .int .i64 n] w fun e w' => e = .returned (.int .i64 2) ∧ w = w' := by
  go_enter Tryd.func28, Tryd.ntmps28
  go_wp2_with (go_at_call 51; refine (none_no v _ h).mono ?_; rintro e w' ⟨rfl, rfl⟩)
  go_ret
  simp
theorem fuse_below (d : DiskL) (n : Int) (w : World) (h : DiskAt w d) (hn : n < 0) :
    Calls Tryd.prog 28 #[(.pointer (some ⟨d.b, 0, none⟩)), .int .i64 n] w fun e w' => e = .returned (.int .i64 1) ∧ w = w' := by
  have H := hid h
  clear h
  go_enter Tryd.func28, Tryd.ntmps28
  go_wp2_with (go_at_call 51; refine (none_ok d _ H.out).mono ?_; rintro e w' ⟨rfl, rfl⟩)
  go_ret
  simp

def DiskL.fused (d : DiskL) (n : Int) : DiskL := { d with fuse := n }
theorem setCell_heap {w : World} {b o : Nat} {c : Array Value} {T : TypeId} {f : Nat × Nat} (v : Value) (h : w.heap[b]? = some (.cells c T f)) : (w.setCell ⟨b, o, none⟩ v).heap[b]? = some (.cells (c.setIfInBounds o v) T f) := by
  simp only [World.setCell, Array.getElem?_modify, if_true, h]
  rfl
theorem DiskAt.refuse {w : World} {d : DiskL} (h : DiskAt w d) (n : Int) (h0 : -1 ≤ n) (h1 : n ≤ 9223372036854775807) : DiskAt (w.setCell ⟨d.b, 2, none⟩ (.int .i64 n)) (d.fused n) := by
  have k : Chg (· = d.b) w (w.setCell ⟨d.b, 2, none⟩ (.int .i64 n)) := Chg.setCell (S := (· = d.b)) (Chg.refl _ w) (p := ⟨d.b, 2, none⟩) (fun _ => rfl) _
  have hn := h.apart
  simp only [DiskL.blocks, List.nodup_cons, List.mem_cons, not_or] at hn
  have hm : ∀ i ∈ d.m :: d.files.flatMap FileL.blocks, ¬ i = d.b := by
    intro i hi e
    subst e
    rcases List.mem_cons.1 hi with e | hi
    · exact hn.1.1 e
    · exact hn.1.2 hi
  have hin : ∀ f ∈ d.files, ∀ i ∈ f.blocks, i ∈ d.m :: d.files.flatMap FileL.blocks := fun f hf i hi => List.mem_cons_of_mem _ (List.mem_flatMap.2 ⟨f, hf, hi⟩)
  exact {
    hdr := setCell_heap (.int .i64 n) h.hdr
    map := h.map.chg k (hm _ (by simp))
    rows := fun f hf => by
      obtain ⟨rest, hr, h2⟩ := h.rows f hf
      exact ⟨rest, k.heap hr (hm _ (hin f hf _ (by simp [FileL.blocks]))), h2⟩
    cells := fun f hf c hc => ⟨k.heap (h.cells f hf c hc).1 (hm _ (hin f hf _ (by simp only [FileL.blocks, List.mem_cons, List.mem_map]; exact .inr ⟨c, hc, rfl⟩))), (h.cells f hf c hc).2⟩
    apart := h.apart
    full := h.full
    room0 := h.room0
    room1 := h.room1
    fits := h.fits
    fuse0 := h0
    fuse1 := h1 }
theorem fuse_ok (d : DiskL) (n : Int) (w : World) (h : DiskAt w d) (h0 : 0 ≤ n) (h1 : n ≤ 9223372036854775807) :
    Calls Tryd.prog 28 #[(.pointer (some ⟨d.b, 0, none⟩)), .int .i64 n] w fun e w' => e = .returned (.int .i64 0) ∧ DiskAt w' (d.fused n) ∧ Chg (· = d.b) w w' := by
  have H := hid h
  have c2 := h.c2
  have f2 := h.fz 2
  have hfin := hid (h.refuse n (by omega) h1)
  clear h
  go_enter Tryd.func28, Tryd.ntmps28
  go_wp2_with (go_at_call 51; refine (none_ok d _ H.out).mono ?_; rintro e w' ⟨rfl, rfl⟩)
  go_ret
  exact ⟨rfl, hfin.out, Chg.setCell (S := (· = d.b)) (Chg.refl _ w) (p := ⟨d.b, 2, none⟩) (fun _ => rfl) _⟩

/-! ### the fuse burns -/
def DiskL.burnt (d : DiskL) : DiskL := if 0 < d.fuse then d.fused (d.fuse - 1) else d
def DiskL.goes (d : DiskL) : Bool := d.fuse != 0
theorem DiskL.burnt_blocks (d : DiskL) : d.burnt.blocks = d.blocks := by unfold DiskL.burnt; split <;> rfl
theorem DiskL.burnt_files (d : DiskL) : d.burnt.files = d.files := by unfold DiskL.burnt; split <;> rfl
theorem DiskL.burnt_b (d : DiskL) : d.burnt.b = d.b := by unfold DiskL.burnt; split <;> rfl
theorem DiskL.burnt_m (d : DiskL) : d.burnt.m = d.m := by unfold DiskL.burnt; split <;> rfl
theorem DiskL.burnt_room (d : DiskL) : d.burnt.room = d.room := by unfold DiskL.burnt; split <;> rfl
theorem burn_any (d : DiskL) (w : World) (h : DiskAt w d) :
    Calls Tryd.prog 82 #[(.pointer (some ⟨d.b, 0, none⟩))] w fun e w' => e = .returned (.bool d.goes) ∧ DiskAt w' d.burnt ∧ Chg (· = d.b) w w' ∧ w'.heap.size = w.heap.size := by
  have c2 := h.c2
  have f2 := h.fz 2
  have b0 := h.fuse0
  have b1 := h.fuse1
  by_cases hp : 0 < d.fuse
  · have hfin := hid (h.refuse (d.fuse - 1) (by omega) (by omega))
    clear h
    go_enter Tryd.func82, Tryd.ntmps82
    go_wp2
    go_ret
    refine ⟨ret_bool ?_, ?_, Chg.setCell (S := (· = d.b)) (Chg.refl _ w) (p := ⟨d.b, 2, none⟩) (fun _ => rfl) _, by simp⟩
    · have : d.fuse ≠ 0 := by omega
      simp [DiskL.goes, this]
    · rw [DiskL.burnt, if_pos hp]; exact hfin.out
  · have hfin := hid h
    clear h
    go_enter Tryd.func82, Tryd.ntmps82
    go_wp2
    go_ret
    refine ⟨ret_bool ?_, ?_, Chg.refl _ _, rfl⟩
    · unfold DiskL.goes
      by_cases h0 : d.fuse = 0
      · simp [h0]
      · have : d.fuse < 0 := by omega
        simp [this, h0]
    · rw [DiskL.burnt, if_neg (by omega)]; exact hfin.out

/-! ### a file's extents -/
theorem keyS : KeyT Tryd.prog 9 Value.string := keyT_string Tryd.underlying9
theorem zeroL (w : World) : (zeroValue 129).run Tryd.prog w = .ok (.slice none 0 0) w := by kernel_rfl
def DiskL.file (d : DiskL) (name : ByteArray) : Option FileL := d.files.find? fun f => f.name = name
theorem ents_get (name : ByteArray) : ∀ l : List FileL, aget name (l.map fun f => (f.name, f.val)) = (l.find? fun f => f.name = name).map FileL.val
  | [] => rfl
  | f :: l => by
    simp only [List.map_cons, aget, List.find?_cons]
    by_cases h : f.name = name
    · simp [h]
    · simp [h, ents_get name l]
/-- What a look into the map tells. -/
def DiskL.slot (d : DiskL) (name : ByteArray) : Value := ((d.file name).map FileL.val).getD (.slice none 0 0)
theorem DiskAt.look {w : World} {d : DiskL} (h : DiskAt w d) (name : ByteArray) (c : Bool) :
    (Instr.lookup 36 (.map (some d.m)) (.string name) c).run Tryd.prog w = .ok (if c then .tuple #[d.slot name, .bool (d.file name).isSome] else d.slot name) w := by
  have := h.map.lookup keyS Tryd.underlying36 (zeroL w) name c
  rw [this, DiskL.ents, ents_get]
  unfold DiskL.slot DiskL.file
  cases (d.files.find? fun f => f.name = name) <;> rfl
def DiskL.count (d : DiskL) (name : ByteArray) : Nat := ((d.file name).map fun f => f.cs.length).getD 0
theorem slot_form (d : DiskL) (name : ByteArray) : ∃ A cap, d.slot name = .slice A (d.count name) cap := by
  unfold DiskL.slot DiskL.count
  cases d.file name with
  | none => exact ⟨_, _, rfl⟩
  | some f => exact ⟨_, _, rfl⟩
theorem ext_no (v : Value) (name : ByteArray) (w : World) (h : NoDisk w v) :
    Calls Tryd.prog 40 #[v, .string name] w fun e w' => e = .returned (.int .i64 0) ∧ w = w' := by
  go_enter Tryd.func40, Tryd.ntmps40
  go_wp2_with (go_at_call 51; refine (none_no v _ h).mono ?_; rintro e w' ⟨rfl, rfl⟩)
  go_ret
  simp
theorem ext_any (d : DiskL) (name : ByteArray) (w : World) (h : DiskAt w d) :
    Calls Tryd.prog 40 #[(.pointer (some ⟨d.b, 0, none⟩)), .string name] w fun e w' => e = .returned (.int .i64 (d.count name)) ∧ w = w' := by
  have H := hid h
  have c1 := h.c1
  have hl := h.look name false
  obtain ⟨A, cap, hs⟩ := slot_form d name
  rw [hs] at hl
  simp only [Bool.false_eq_true, if_false] at hl
  clear h hs
  go_enter Tryd.func40, Tryd.ntmps40
  go_wp2_with (go_at_call 51; refine (none_ok d _ H.out).mono ?_; rintro e w' ⟨rfl, rfl⟩)
  go_ret
  simp
/-! ### a new disk -/
def newD (room : Int) (w : World) : DiskL := ⟨w.heap.size + 1, w.heap.size, room, -1, []⟩
theorem new_bad (room : Int) (w : World) (h : room < 0 ∨ 100000 < room) :
    Calls Tryd.prog 25 #[.int .i64 room] w fun e w' => e = .returned (.tuple #[.pointer none, .int .i64 1]) ∧ w = w' := by
  by_cases h1 : room < 0
  · clear h
    go_enter Tryd.func25, Tryd.ntmps25
    go_wp2
    go_ret2
    simp
  · have h2 : 100000 < room := by omega
    clear h
    go_enter Tryd.func25, Tryd.ntmps25
    go_wp2
    go_ret2
    simp
theorem new_ok (room : Int) (w : World) (h0 : 0 ≤ room) (h1 : room ≤ 100000) :
    Calls Tryd.prog 25 #[.int .i64 room] w fun e w' => e = .returned (.tuple #[.pointer (some ⟨(newD room w).b, 0, none⟩), .int .i64 0]) ∧ DiskAt w' (newD room w) ∧ Below w.heap.size w w' := by
  have hmm := @run_makeMap Tryd.prog
  have hfin : Hid (DiskAt ((w.alloc (.map #[] 0)).alloc (.cells #[.int .i64 room, .map (some w.heap.size), .int .i64 (-1)] 38)) (newD room w)) := {
    hdr := heap_at _ _ _ (by simp [newD])
    map := (MapA.made Value.string w).below ((Below.refl _ _).alloc (Nat.le_refl _) _)
    rows := fun f hf => by simp [newD] at hf
    cells := fun f hf => by simp [newD] at hf
    apart := by simp [DiskL.blocks, newD]
    full := fun f hf => by simp [newD] at hf
    room0 := h0
    room1 := h1
    fits := by simpa [newD, DiskL.used] using h0
    fuse0 := by simp [newD]
    fuse1 := by simp [newD] }
  go_enter Tryd.func25, Tryd.ntmps25
  go_wp2
  go_ret2
  exact ⟨rfl, hfin.out, below_alloc (below_alloc (Below.refl _ _) _) _⟩

/-! ### an extent -/
def DiskL.cell (d : DiskL) (name : ByteArray) (i : Int) : Option (Nat × CellS) := if 0 ≤ i then (d.file name).bind fun f => f.cs[i.toNat]? else none
theorem at_none (d : DiskL) (name : ByteArray) (i : Int) (w : World) (h : DiskAt w d) (hc : d.cell name i = none) :
    Calls Tryd.prog 63 #[(.pointer (some ⟨d.b, 0, none⟩)), .string name, .int .i64 i] w fun e w' => e = .returned (.pointer none) ∧ w = w' := by
  have c1 := h.c1
  have hl := h.look name false
  obtain ⟨A, cap, hs⟩ := slot_form d name
  rw [hs] at hl
  simp only [Bool.false_eq_true, if_false] at hl
  have hcn : i < 0 ∨ (d.count name : Int) ≤ i := by
    by_cases h0 : 0 ≤ i
    · right
      unfold DiskL.cell at hc
      rw [if_pos h0] at hc
      unfold DiskL.count
      cases hf : d.file name with
      | none => simpa using h0
      | some f =>
        rw [hf] at hc
        simp only [Option.bind_some, List.getElem?_eq_none_iff] at hc
        simp only [Option.map_some, Option.getD_some]
        omega
    · left; omega
  clear h hs hc
  rcases hcn with h0 | h0
  · have hd : decide ((0 : Int) ≤ i) = false := by simp; omega
    clear h0
    go_enter Tryd.func63, Tryd.ntmps63
    go_wp2
    go_ret
    simp
  · by_cases h1 : 0 ≤ i
    case neg =>
      have hd : decide ((0 : Int) ≤ i) = false := by simp; omega
      clear h0 h1
      go_enter Tryd.func63, Tryd.ntmps63
      go_wp2
      go_ret
      simp
    have hd : decide ((0 : Int) ≤ i) = true := by simp; omega
    have h2 : decide (i < (d.count name : Int)) = false := by simp; omega
    clear h0
    go_enter Tryd.func63, Tryd.ntmps63
    go_wp2
    go_ret
    simp
theorem at_some (d : DiskL) (name : ByteArray) (i : Int) (c : Nat × CellS) (w : World) (h : DiskAt w d) (hc : d.cell name i = some c) :
    Calls Tryd.prog 63 #[(.pointer (some ⟨d.b, 0, none⟩)), .string name, .int .i64 i] w fun e w' => e = .returned (.pointer (some ⟨c.1, 0, none⟩)) ∧ w = w' := by
  have c1 := h.c1
  have hl := h.look name false
  unfold DiskL.cell at hc
  split at hc
  · rename_i h0
    cases hf : d.file name with
    | none => rw [hf] at hc; cases hc
    | some f =>
      rw [hf] at hc
      simp only [Option.bind_some] at hc
      obtain ⟨hlt, hcc⟩ := List.getElem?_eq_some_iff.1 hc
      have hm : f ∈ d.files := List.mem_of_find?_eq_some hf
      obtain ⟨rest, hr, hcap, hmx⟩ := h.rows f hm
      have hs : d.slot name = .slice (some ⟨f.g, 0, none⟩) f.cs.length f.cap := by unfold DiskL.slot; rw [hf]; rfl
      rw [hs] at hl
      simp only [Bool.false_eq_true, if_false] at hl
      have hlt' : i < f.cs.length := by omega
      have g : w.cell? ⟨f.g, i.toNat, none⟩ = some (.pointer (some ⟨c.1, 0, none⟩)) := by
        have e1 : (f.ptrs ++ rest)[i.toNat]? = some (.pointer (some ⟨c.1, 0, none⟩)) := by
          rw [List.getElem?_append_left (by simpa [FileL.ptrs] using hlt)]
          simp [FileL.ptrs, hc]
        simp only [World.cell?, hr]
        simpa using e1
      unfold maxLen at hmx
      have hb : f.cs.length ≤ 9223372036854775807 := by omega
      clear hc hcc hr hs hm hf h hcap hmx hlt
      go_enter Tryd.func63, Tryd.ntmps63
      go_wp2
      go_ret
      simp
  · cases hc
end Go.Proofs.YtoilokfpfmicaaaDoor
