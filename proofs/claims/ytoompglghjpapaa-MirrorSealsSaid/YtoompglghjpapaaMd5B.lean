/-
  Walk: Md5: the 16 bytes that name a chunk.
-/
import Derived.Test.YtoompglghjpapaaMd5A
import Derived.Test.YtoompglghjpapaaOwn
import Derived.Test.YtoompglghjpapaaShelf
import Derived.Great.BuildSlice
namespace Go.Proofs.Ytoompglghjpapaa
open Go.RowKit Crc
set_option linter.unusedVariables false
set_option linter.unusedSimpArgs false

theorem mclone_any (A : Option Addr) (l : List UInt8) (cap : Nat) (w : World) (hm : l.length ≤ 140737488355328) (h : RdB w A l) :
    Calls Try.prog 72 #[.slice A l.length cap] w fun e w' => ∃ A' c', e = .returned (.slice A' l.length c') ∧ OwnB w' w.heap.size A' c' l ∧ Below w.heap.size w w' := by
  rcases A with _ | ad
  · have h0 : l = [] := by
      cases l with
      | nil => rfl
      | cons x l => obtain ⟨_, e, _⟩ := h (by simp); cases e
    subst h0
    refine (Try.bytes_Clone_nil 0 cap w).mono ?_
    rintro e w' ⟨rfl, rfl⟩
    exact ⟨none, 0, rfl, OwnB.nil _ _, Below.refl _ _⟩
  · have hc : ∀ i, i < l.length → w.cell? (ad.add i) = some (.int .u8 ((l.map fun x => (x.toNat : Int)).getD i 0)) := by
      intro i hi
      obtain ⟨_, e, hc⟩ := h (by omega)
      cases e
      rw [hc i hi]
      simp [List.getD, hi]
    refine (Try.bytes_Clone_at ad l.length cap (l.map fun x => (x.toNat : Int)) w (by simp) (by omega) hc).mono ?_
    rintro e w' ⟨v', rfl, hown, _, hb⟩
    obtain ⟨A', c', rfl, hown, _⟩ := own_form hown
    refine ⟨A', c', rfl, ?_, hb⟩
    unfold OwnB
    have : (l.map fun x => (x.toNat : Int)).map (Value.int .u8) = bc l := by simp [bc]
    rw [this] at hown; exact hown

def tblI : List Int := (List.range 64).map fun j => ((Md5.sine j).toNat : Int)
theorem tbl_eq : (tblI.map (Value.int .u32)).toArray = tbl := by simp [tblI, tbl, List.map_map, Function.comp_def]
theorem tbl_size : tbl.size = 64 := by simp [tbl]
theorem tbl_one : tbl.all (·.oneCell') = true := by
  rw [Array.all_eq_true_iff_forall_mem]
  intro v hv
  simp only [tbl, List.mem_toArray, List.mem_map] at hv
  obtain ⟨j, _, rfl⟩ := hv; rfl
theorem setRow_block (w : World) (g : Nat) (cells : Array Value) (old : Array Value) (t : TypeId) (h : Blk w g t old) : Blk (w.setRow g cells) g t cells := setRow_heap w g old _ t _ h
theorem below_setRow {B : Nat} {a w : World} (h : Below B a w) {g : Nat} (hg : B ≤ g) (cells : Array Value) : Below B a (w.setRow g cells) :=
  h.trans ⟨rfl, rfl, rfl, by simp, fun k hk => setRow_other w g k _ (by omega)⟩

set_option maxRecDepth 100000 in
set_option maxHeartbeats 400000 in
theorem sines_any (w : World) : Calls Try.prog 79 #[] w fun e w' => e = .returned (.agg tbl) ∧ Below w.heap.size w w' := by
  have hz : ((Try.prog.info? 141).bind (·.zero)).map (·.cells.size) = some tblI.length := by kernel_rfl
  have hs1 : (Try.prog.info? 141).map (·.size) = some tbl.size := by kernel_rfl
  have HZ := Lib.hid hz; clear hz
  have HS := Lib.hid hs1; clear hs1
  go_enter Try.func79, Try.ntmps79
  go_wp2_with (first
    | (refine wpList_buildFlatArr rfl 141 138 64 _ rfl .u32 tblI Try.underlying141 (by kernel_rfl) HZ.out (by kernel_rfl) ?_; rw [tbl_eq])
    | (refine wpList_store_row rfl 141 (.tmp 0) (.tmp 1) rfl w.heap.size tbl rfl rfl 141 _ (heap_alloc_new w _) HS.out (by rw [tbl_size]; rfl) tbl_one ?_))
  have hb := setRow_block (w.alloc (.cells (Array.replicate 64 (Value.int .u32 0)) 141)) w.heap.size tbl _ _ (Blk.new w _ _)
  refine bodyPost_ret (v := .agg tbl) (results_cell_row (p := 0) (ty := 141) rfl _ _ w.heap.size 141 tbl (0, 0) _ rfl hb Try.underlying141 rfl HS.out) rfl ⟨rfl, below_setRow ((Below.refl _ _).alloc (Nat.le_refl _) _) (Nat.le_refl _) _⟩
end Go.Proofs.Ytoompglghjpapaa
