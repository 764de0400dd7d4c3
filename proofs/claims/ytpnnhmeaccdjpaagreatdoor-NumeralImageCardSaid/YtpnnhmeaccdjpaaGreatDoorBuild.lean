/- Its table is built so. -/
import Derived.Test.YtpnnhmeaccdjpaaGreatDoorRepl
import Derived.Deep.WholeRow
import Derived.Test.YtpnnhmeaccdjpaaGreatDoorMem
namespace Go.Proofs.YtpnnhmeaccdjpaaGreatDoor
open Go.RowKit Go.Shelf

theorem zc88 : Tryz.zeroCells88 = Array.replicate 257 (.slice none 0 0) := by kernel_rfl
theorem size88 : (Tryz.prog.info? 88).map (·.size) = some 257 := by kernel_rfl

theorem set_at (n i j : Nat) (u v : Value) (hi : i < n) (hj : j < n) : ((Array.replicate n u).toList.set i v).toArray[j]? = some (if i = j then v else u) := by
  simp only [List.getElem?_toArray, Array.toList_replicate, List.getElem?_set, List.length_replicate, hi, if_true, List.getElem?_replicate, hj]
  split <;> rfl

/-- The table's first state: nil at every byte. -/
theorem table_new (n : Nat) (hn : n = 257) (hz : Tryz.zeroCells88 = Array.replicate n (.slice none 0 0)) (w : World) (v : Value) (h1 : v.oneCell' = true) : ∃ T : Array Value, T.size = n ∧ T[48]? = some (.slice none 0 0) ∧ T[49]? = some (.slice none 0 0) ∧ T[256]? = some v ∧ (∀ i, i < 256 → T[i]? = some (.slice none 0 0)) ∧
    Sem.run Tryz.prog (storeCells ⟨w.heap.size, 0, none⟩ (Tryz.zeroCells88.toList.set 256 v)) (w.alloc (.cells Tryz.zeroCells88 88)) = .ok () (w.alloc (.cells T 88)) := by
  have hs : (((Array.replicate n (Value.slice none 0 0)).toList.set 256 v).toArray).size = n := by simp only [List.size_toArray, List.length_set, Array.length_toList, Array.size_replicate]
  refine ⟨((Array.replicate n (Value.slice none 0 0)).toList.set 256 v).toArray, hs, ?_, ?_, ?_, ?_, ?_⟩
  · rw [set_at _ _ _ _ _ (by omega) (by omega), if_neg (by omega)]
  · rw [set_at _ _ _ _ _ (by omega) (by omega), if_neg (by omega)]
  · rw [set_at _ _ _ _ _ (by omega) (by omega), if_pos rfl]
  · intro i hi
    rw [set_at _ _ _ _ _ (by omega) (by omega), if_neg (by omega)]
  · rw [hz]
    exact run_storeCells_new (P := Tryz.prog) w 88 (Array.replicate n (.slice none 0 0)) ((Array.replicate n (Value.slice none 0 0)).toList.set 256 v).toArray (by rw [size88, hs, hn]) (by rw [hs, Array.size_replicate]) (by
      rw [Array.all_eq_true']
      intro x hx
      simp only [List.mem_toArray] at hx
      rcases List.mem_or_eq_of_mem_set hx with h | h
      · have := Array.eq_of_mem_replicate (Array.mem_toList_iff.1 h)
        subst this; rfl
      · subst h; exact h1)

theorem conv_one (W : World) (c : UInt8) (n : Int) (h : (c.toNat : Int) = n) : (convert 72 9 (.slice (some ⟨W.heap.size, 0, none⟩) 1 1)).run Tryz.prog (W.alloc (.cells #[.int .u8 n] 5)) = .ok (.string (S [c])) (W.alloc (.cells #[.int .u8 n] 5)) :=
  run_convert_bytes_back (P := Tryz.prog) _ 72 9 5 ⟨W.heap.size, 0, none⟩ 1 [c] Tryz.underlying72 Tryz.underlying5 Tryz.underlying9 (fun j hj => by
    match j, hj with
    | 0, _ => subst h; simp [Addr.add])
theorem conv_back (W : World) (s : ByteArray) : (convert 9 72 (.string s)).run Tryz.prog W = .ok (.slice (some ⟨W.heap.size, 0, none⟩) s.size (grownCap W s.size 0 5))
      (W.drew.alloc (.cells (bytesRow s (grownCap W s.size 0 5)) 5 ((bytesRow s (grownCap W s.size 0 5)).size, (bytesRow s (grownCap W s.size 0 5)).size + 1))) :=
  run_bytes_of_string (P := Tryz.prog) W 9 72 5 s Tryz.underlying9 Tryz.underlying72 Tryz.underlying5

/-- The table at block bt: 48 is replaced by 48 49, and 49 by 48; all its blocks lie from B on. -/
def Table (w : World) (B bt : Nat) : Prop := ∃ (T : Array Value) (x0 c0 x1 c1 xr : Nat), T.size = 257 ∧ Blk w bt 88 T ∧ B ≤ bt ∧ B ≤ x0 ∧ B ≤ x1 ∧ B ≤ xr ∧
  T[48]? = some (.slice (some ⟨x0, 0, none⟩) 2 c0) ∧ T[49]? = some (.slice (some ⟨x1, 0, none⟩) 1 c1) ∧ (∀ i, i < 256 → i ≠ 48 → i ≠ 49 → T[i]? = some (.slice none 0 0)) ∧ T[256]? = some (.slice (some ⟨xr, 0, none⟩) 2 2) ∧
  w.cell? ⟨x0, 0, none⟩ = some (.int .u8 48) ∧ w.cell? ⟨x0, 1, none⟩ = some (.int .u8 49) ∧ w.cell? ⟨x1, 0, none⟩ = some (.int .u8 48) ∧
  w.cell? ⟨xr, 0, none⟩ = some (.string (S [49])) ∧ w.cell? ⟨xr, 1, none⟩ = some (.string (S [48])) ∧ x0 < w.heap.size ∧ x1 < w.heap.size ∧ xr < w.heap.size

theorem row_byte (w : World) (x j : Nat) (s : ByteArray) (cap : Nat) (fz : Nat × Nat) (n : Int) (hx : w.heap[x]? = some (.cells (bytesRow s cap) 5 fz)) (hj : j < s.data.size) (hn : (s.data[j].toNat : Int) = n) : w.cell? ⟨x, j, none⟩ = some (.int .u8 n) := by
  rw [cell_of_row w x j _ 5 fz hx, bytesRow_at s cap j hj, hn]

theorem set2 (T : Array Value) (i j : Nat) (u v : Value) (hi : i ≠ j) (hT : i < T.size) (hj : j < T.size) (k : Nat) : ((T.setIfInBounds i u).setIfInBounds j v)[k]? = if k = j then some v else if k = i then some u else T[k]? := by
  by_cases h1 : k = j
  · subst h1; rw [if_pos rfl, Array.getElem?_setIfInBounds_self_of_lt (by simpa using hj)]
  · rw [if_neg h1, Array.getElem?_setIfInBounds_ne (Ne.symm h1)]
    by_cases h2 : k = i
    · subst h2; rw [if_pos rfl, Array.getElem?_setIfInBounds_self_of_lt hT]
    · rw [if_neg h2, Array.getElem?_setIfInBounds_ne (Ne.symm h2)]

set_option maxRecDepth 100000 in
set_option maxHeartbeats 1000000 in
theorem build_ok (b g cap : Nat) (w : World) (_hbl : b < w.heap.size) (hgl : g < w.heap.size) (hb : w.cell? ⟨b, 4, none⟩ = some (.slice (some ⟨g, 0, none⟩) 4 cap))
    (g0 : w.cell? ⟨g, 0, none⟩ = some (.string (S [48]))) (g1 : w.cell? ⟨g, 1, none⟩ = some (.string (S [48, 49]))) (g2 : w.cell? ⟨g, 2, none⟩ = some (.string (S [49]))) (g3 : w.cell? ⟨g, 3, none⟩ = some (.string (S [48]))) :
    Calls Tryz.prog 28 #[.pointer (some ⟨b, 0, none⟩)] w fun e w' => ∃ bt, e = .returned (.iface 89 (.pointer (some ⟨bt, 0, none⟩))) ∧ Table w' w.heap.size bt ∧ Below w.heap.size w w' := by
  have s1 : (S [48]).size = 1 := rfl
  have s2 : (S [48, 49]).size = 2 := rfl
  have s3 : (S [49]).size = 1 := rfl
  have b48 : ∀ h, (S [48])[0]'h = 48 := fun _ => rfl
  have b49 : ∀ h, (S [49])[0]'h = 49 := fun _ => rfl
  obtain ⟨i0, hi, hz0, hz1, hz2⟩ := info_parts info9
  have hmk : ∀ w, (Instr.makeSlice 31 (.int .i64 0) (.int .i64 2)).run Tryz.prog w = .ok (.slice (some ⟨w.heap.size, 0, none⟩) 0 2) (w.alloc (.cells #[.string ⟨#[]⟩, .string ⟨#[]⟩] 9)) := fun _ => by kernel_rfl
  obtain ⟨T, hT, hT1, hT2, hT3, hTn, hst⟩ := table_new 257 rfl zc88 (w.alloc (.cells #[.string ⟨#[]⟩, .string ⟨#[]⟩] 9)) (.slice (some ⟨w.heap.size, 0, none⟩) 0 2) rfl
  simp only [World.size_alloc] at hst
  have hq := fun (w : World) (a : Option Addr) (n c n' c' : Nat) => Lib.run_eql_slice_nil (P := Tryz.prog) w 72 5 a n c n' c' Tryz.underlying72
  have HTn := Lib.hid hTn
  have HT1 := Lib.hid hT1
  have HT2 := Lib.hid hT2
  have HT3 := Lib.hid hT3
  clear hTn hT1 hT2 hT3
  go_enter Tryz.func28, Tryz.ntmps28
  go_wp2_with fail
  refine wp_loop_rounds 3 ?_
  rw [rounds_succ]
  go_wp2_with fail
  rw [rounds_succ]
  go_wp2_with fail
  rw [rounds_succ]
  go_wp2_with fail
  -- the world in which the loop begins
  obtain ⟨W, hW⟩ : ∃ W, W = (w.alloc (.cells #[.string ⟨#[]⟩, .string ⟨#[]⟩] 9)).alloc (.cells T 88) := ⟨_, rfl⟩
  rw [← hW]
  have hB : Below w.heap.size w W := by rw [hW]; exact ((Below.refl _ _).alloc (Nat.le_refl _) _).alloc (by simp) _
  have hz : W.heap.size = w.heap.size + 2 := by rw [hW]; simp
  have hBt : W.heap[w.heap.size + 1]? = some (.cells T 88 (0, 0)) := by rw [hW]; have := heap_alloc_new (w.alloc (.cells #[.string ⟨#[]⟩, .string ⟨#[]⟩] 9)) (.cells T 88); simpa using this
  have hown : W.ownsRow w.heap.size 9 1 (.slice (some ⟨w.heap.size, 0, none⟩) 0 2) 0 [] := by
    rw [hW]; exact (World.ownsRow_made w #[.string ⟨#[]⟩, .string ⟨#[]⟩] 2 (Nat.le_refl _) (by decide) rfl).alloc _
  have HW := Lib.hid hW
  have HZ := Lib.hid hz
  have HBt := Lib.hid hBt
  clear hW hz hBt hst
  have k0 : W.cell? ⟨g, 0, none⟩ = some (.string (S [48])) := (hB.cell (p := ⟨g, 0, none⟩) hgl).trans g0
  have k1 : W.cell? ⟨g, 1, none⟩ = some (.string (S [48, 49])) := (hB.cell (p := ⟨g, 1, none⟩) hgl).trans g1
  have k2 : W.cell? ⟨g, 2, none⟩ = some (.string (S [49])) := (hB.cell (p := ⟨g, 2, none⟩) hgl).trans g2
  have k3 : W.cell? ⟨g, 3, none⟩ = some (.string (S [48])) := (hB.cell (p := ⟨g, 3, none⟩) hgl).trans g3
  have t49 : W.cell? ⟨w.heap.size + 1, 49, none⟩ = some (.slice none 0 0) := (cell_of_row W _ 49 T 88 (0, 0) HBt.out).trans HT2.out
  have t256 : W.cell? ⟨w.heap.size + 1, 256, none⟩ = some (.slice (some ⟨w.heap.size, 0, none⟩) 0 2) := (cell_of_row W _ 256 T 88 (0, 0) HBt.out).trans HT3.out
  have hlW : w.heap.size + 1 < W.heap.size := by rw [HZ.out]; omega
  have hgW : g < W.heap.size := by omega
  have hcv := conv_one W 49 49 rfl
  refine wp_loop_rounds 3 ?_
  rw [rounds_succ]
  go_wp2_with (at_builtin; go_must (refine wpList_append_fits _ rfl _ _ 31 rfl w.heap.size 9 i0 1 Tryz.underlying31 hi hz1 w.heap.size 0 2 [] rfl ((hown.alloc _).alloc _) ⟨W.heap.size + 1, 0, none⟩ 1 1 [.string (S [49])] rfl rfl ?c1 ?c2 ?c3 ?_))
  case c1 =>
    intro j u hj
    match j, hj with
    | 0, hj => simp at hj; subst hj; simp [Addr.add]
  case c2 => intro u hu; simp at hu; subst hu; rfl
  case c3 => omega
  intro w1 hown1 hgr1
  have hz1' : W.heap.size + 2 ≤ w1.heap.size := by have := hgr1.size; simp at this; omega
  have hBt1 : w1.heap[w.heap.size + 1]? = some (.cells T 88 (0, 0)) := (hgr1.block _ (by simp; omega) (by simp)).trans (by rw [Below.heap_alloc _ _ _ (by simp; omega), Below.heap_alloc _ _ _ hlW]; exact HBt.out)
  have hB1 : Below w.heap.size w w1 := ((hB.alloc hB.size _).alloc (by have := hB.size; simp; omega) _).grown hgr1 (by have := hB.size; simp; omega) (fun k e => by cases e; exact Nat.le_refl _)
  clear hcv hown k0 k1 k2 k3 t49 t256
  have HB1 := Lib.hid hBt1
  clear hBt1
  have t256 : w1.cell? ⟨w.heap.size + 1, 256, none⟩ = some (.slice (some ⟨w.heap.size, 0, none⟩) 0 2) := (cell_of_row w1 _ 256 T 88 (0, 0) HB1.out).trans HT3.out
  have f256 : w1.frozen? ⟨w.heap.size + 1, 256, none⟩ = false := by have := HB1.out; simp [World.frozen?, this]
  have t49 : w1.cell? ⟨w.heap.size + 1, 49, none⟩ = some (.slice none 0 0) := (cell_of_row w1 _ 49 T 88 (0, 0) HB1.out).trans HT2.out
  have f49 : w1.frozen? ⟨w.heap.size + 1, 49, none⟩ = false := by have := HB1.out; simp [World.frozen?, this]
  have hl1 : w.heap.size + 1 < w1.heap.size := by omega
  have hcb := conv_back (w1.setCell ⟨w.heap.size + 1, 256, none⟩ (.slice (some ⟨w.heap.size, 0, none⟩) 1 2)) (S [48])
  generalize hK1 : bytesRow (S [48]) (grownCap (w1.setCell ⟨w.heap.size + 1, 256, none⟩ (.slice (some ⟨w.heap.size, 0, none⟩) 1 2)) (S [48]).size 0 5) = R1 at hcb
  generalize grownCap (w1.setCell ⟨w.heap.size + 1, 256, none⟩ (.slice (some ⟨w.heap.size, 0, none⟩) 1 2)) (S [48]).size 0 5 = c1 at hcb
  simp only [s1, World.size_setCell] at hcb
  have HK1 := Lib.hid hK1
  clear hK1
  go_wp2_with fail
  obtain ⟨W2, hW2⟩ : ∃ W2, W2 = (((w1.setCell ⟨w.heap.size + 1, 256, none⟩ (.slice (some ⟨w.heap.size, 0, none⟩) 1 2)).setCell ⟨w.heap.size + 1, 49, none⟩ (.slice (some ⟨w1.heap.size, 0, none⟩) 1 c1)).alloc (.cells R1 5 (R1.size, R1.size + 1))).drew := ⟨_, rfl⟩
  rw [← hW2]
  have hT2b : Blk W2 (w.heap.size + 1) 88 ((T.setIfInBounds 256 (.slice (some ⟨w.heap.size, 0, none⟩) 1 2)).setIfInBounds 49 (.slice (some ⟨w1.heap.size, 0, none⟩) 1 c1)) := by
    rw [hW2]; exact ((((show Blk w1 _ _ _ from HB1.out).set_ 256 _).set_ 49 _).alloc _).drew
  have hR2 : W2.heap[w1.heap.size]? = some (.cells R1 5 (R1.size, R1.size + 1)) := by
    rw [hW2]; have := heap_alloc_new ((w1.setCell ⟨w.heap.size + 1, 256, none⟩ (.slice (some ⟨w.heap.size, 0, none⟩) 1 2)).setCell ⟨w.heap.size + 1, 49, none⟩ (.slice (some ⟨w1.heap.size, 0, none⟩) 1 c1)) (.cells R1 5 (R1.size, R1.size + 1)); simp only [World.size_setCell] at this; exact this
  have hB2 : Below w.heap.size w W2 := by
    rw [hW2]; exact (((hB1.setCell (by simp) _).setCell (by simp) _).alloc (by have := hB1.size; simp; omega) _).drew
  have hz2' : W2.heap.size = w1.heap.size + 1 := by rw [hW2]; simp
  have hown2 : W2.ownsRow w.heap.size 9 1 (.slice (some ⟨w.heap.size, 0, none⟩) 1 2) 1 [.string (S [49])] := by
    rw [hW2]
    exact ((ownsRow_setCell_other (ownsRow_setCell_other hown1 (by simp [Value.ownBlock]) _) (by simp [Value.ownBlock]) _).alloc _).drew
  clear hcb t49 t256 f49 f256 hW2 hgr1 hown1
  have HB2 := Lib.hid hT2b
  have HR2 := Lib.hid hR2
  clear hT2b hR2
  have hlT : w.heap.size + 1 < W2.heap.size := by omega
  have hgW2 : g < W2.heap.size := by omega
  have HZ2 := Lib.hid hz2'
  clear hz2'
  have k0 : W2.cell? ⟨g, 0, none⟩ = some (.string (S [48])) := (hB2.cell (p := ⟨g, 0, none⟩) hgl).trans g0
  have k1 : W2.cell? ⟨g, 1, none⟩ = some (.string (S [48, 49])) := (hB2.cell (p := ⟨g, 1, none⟩) hgl).trans g1
  have t48 : W2.cell? ⟨w.heap.size + 1, 48, none⟩ = some (.slice none 0 0) := by rw [HB2.out.cell 48, set2 _ _ _ _ _ (by omega) (by omega) (by omega), if_neg (by omega), if_neg (by omega)]; exact HT1.out
  have t256 : W2.cell? ⟨w.heap.size + 1, 256, none⟩ = some (.slice (some ⟨w.heap.size, 0, none⟩) 1 2) := by rw [HB2.out.cell 256, set2 _ _ _ _ _ (by omega) (by omega) (by omega), if_neg (by omega), if_pos rfl]
  have hcv := conv_one W2 48 48 rfl
  rw [rounds_succ]
  go_wp2_with (at_builtin; go_must (refine wpList_append_fits _ rfl _ _ 31 rfl w.heap.size 9 i0 1 Tryz.underlying31 hi hz1 w.heap.size 1 2 [.string (S [49])] rfl ((hown2.alloc _).alloc _) ⟨W2.heap.size + 1, 0, none⟩ 1 1 [.string (S [48])] rfl rfl ?d1 ?d2 ?d3 ?_))
  case d1 =>
    intro j u hj
    match j, hj with
    | 0, hj => simp at hj; subst hj; simp [Addr.add]
  case d2 => intro u hu; simp at hu; subst hu; rfl
  case d3 => omega
  intro w2 hown3 hgr2
  have hz2' : W2.heap.size + 2 ≤ w2.heap.size := by have := hgr2.size; simp at this; omega
  have hT3b : Blk w2 (w.heap.size + 1) 88 _ := ((HB2.out.alloc _).alloc _).grown hgr2 (by simp)
  have HR3 : Hid (w2.heap[w1.heap.size]? = some (.cells R1 5 (R1.size, R1.size + 1))) :=
    (hgr2.block _ (by have := HZ2.out; simp; omega) (by simp; omega)).trans (by rw [Below.heap_alloc _ _ _ (by have := HZ2.out; simp; omega), Below.heap_alloc _ _ _ (by have := HZ2.out; omega)]; exact HR2.out)
  have hB3 : Below w.heap.size w w2 := ((hB2.alloc hB2.size _).alloc (by have := hB2.size; simp; omega) _).grown hgr2 (by have := hB2.size; simp; omega) (fun k e => by cases e; exact Nat.le_refl _)
  clear hcv hown2 k0 k1 t48 t256
  have HB3 := Lib.hid hT3b
  clear hT3b
  have t256 : w2.cell? ⟨w.heap.size + 1, 256, none⟩ = some (.slice (some ⟨w.heap.size, 0, none⟩) 1 2) := by rw [HB3.out.cell 256, set2 _ _ _ _ _ (by omega) (by omega) (by omega), if_neg (by omega), if_pos rfl]
  have f256 : w2.frozen? ⟨w.heap.size + 1, 256, none⟩ = false := HB3.out.frozen 256
  have t48 : w2.cell? ⟨w.heap.size + 1, 48, none⟩ = some (.slice none 0 0) := by rw [HB3.out.cell 48, set2 _ _ _ _ _ (by omega) (by omega) (by omega), if_neg (by omega), if_neg (by omega)]; exact HT1.out
  have f48 : w2.frozen? ⟨w.heap.size + 1, 48, none⟩ = false := HB3.out.frozen 48
  have hl2 : w.heap.size + 1 < w2.heap.size := by omega
  have hcb := conv_back (w2.setCell ⟨w.heap.size + 1, 256, none⟩ (.slice (some ⟨w.heap.size, 0, none⟩) 2 2)) (S [48, 49])
  generalize hK2 : bytesRow (S [48, 49]) (grownCap (w2.setCell ⟨w.heap.size + 1, 256, none⟩ (.slice (some ⟨w.heap.size, 0, none⟩) 2 2)) (S [48, 49]).size 0 5) = R2 at hcb
  generalize grownCap (w2.setCell ⟨w.heap.size + 1, 256, none⟩ (.slice (some ⟨w.heap.size, 0, none⟩) 2 2)) (S [48, 49]).size 0 5 = c2 at hcb
  simp only [s2, World.size_setCell] at hcb
  have HK2 := Lib.hid hK2
  clear hK2
  go_wp2_with fail
  rw [rounds_succ]
  go_wp2_with fail
  go_ret
  obtain ⟨W3, hW3⟩ : ∃ W3, W3 = (((w2.setCell ⟨w.heap.size + 1, 256, none⟩ (.slice (some ⟨w.heap.size, 0, none⟩) 2 2)).setCell ⟨w.heap.size + 1, 48, none⟩ (.slice (some ⟨w2.heap.size, 0, none⟩) 2 c2)).alloc (.cells R2 5 (R2.size, R2.size + 1))).drew := ⟨_, rfl⟩
  rw [← hW3]
  have hT4 := (((HB3.out.set_ 256 (.slice (some ⟨w.heap.size, 0, none⟩) 2 2)).set_ 48 (.slice (some ⟨w2.heap.size, 0, none⟩) 2 c2)).alloc (.cells R2 5 (R2.size, R2.size + 1))).drew
  have hR4 : W3.heap[w2.heap.size]? = some (.cells R2 5 (R2.size, R2.size + 1)) := by
    rw [hW3]; have := heap_alloc_new ((w2.setCell ⟨w.heap.size + 1, 256, none⟩ (.slice (some ⟨w.heap.size, 0, none⟩) 2 2)).setCell ⟨w.heap.size + 1, 48, none⟩ (.slice (some ⟨w2.heap.size, 0, none⟩) 2 c2)) (.cells R2 5 (R2.size, R2.size + 1)); simp only [World.size_setCell] at this; exact this
  have hl12 : w1.heap.size < w2.heap.size := by have := HZ2.out; omega
  have hR4' : W3.heap[w1.heap.size]? = some (.cells R1 5 (R1.size, R1.size + 1)) := by
    rw [hW3]
    refine (Below.heap_alloc _ _ _ (by simp; omega)).trans ?_
    rw [Below.heap_setCell _ _ _ _ (by simp; omega), Below.heap_setCell _ _ _ _ (by simp; omega)]
    exact HR3.out
  have hown4 : W3.ownsRow w.heap.size 9 1 (.slice (some ⟨w.heap.size, 0, none⟩) 2 2) 2 [.string (S [49]), .string (S [48])] := by
    rw [hW3]
    exact ((ownsRow_setCell_other (ownsRow_setCell_other hown3 (by simp [Value.ownBlock]) _) (by simp [Value.ownBlock]) _).alloc _).drew
  have hB4 : Below w.heap.size w W3 := by
    rw [hW3]; exact (((hB3.setCell (by simp) _).setCell (by simp) _).alloc (by have := hB3.size; simp; omega) _).drew
  have hz3 : W3.heap.size = w2.heap.size + 1 := by rw [hW3]; simp
  rw [← hW3] at hT4
  have hsz : ((T.setIfInBounds 256 (.slice (some ⟨w.heap.size, 0, none⟩) 1 2)).setIfInBounds 49 (.slice (some ⟨w1.heap.size, 0, none⟩) 1 c1)).size = 257 := by simp only [Array.size_setIfInBounds, hT]
  have hk1 := HK1.out
  have hk2 := HK2.out
  refine ⟨w.heap.size + 1, rfl, ⟨_, w2.heap.size, c2, w1.heap.size, c1, w.heap.size, ?_, hT4, by omega, by omega, by omega, Nat.le_refl _, ?_, ?_, ?_, ?_, ?_, ?_, ?_, ?_, ?_, by omega, by omega, by omega⟩, hB4⟩
  · simp only [Array.size_setIfInBounds, hT]
  · rw [set2 _ _ _ _ _ (by omega) (by omega) (by omega), if_pos rfl]
  · rw [set2 _ _ _ _ _ (by omega) (by omega) (by omega), if_neg (by omega), if_neg (by omega), set2 _ _ _ _ _ (by omega) (by omega) (by omega), if_pos rfl]
  · intro i hi h48 h49
    rw [set2 _ _ _ _ _ (by omega) (by omega) (by omega), if_neg h48, if_neg (by omega), set2 _ _ _ _ _ (by omega) (by omega) (by omega), if_neg h49, if_neg (by omega)]
    exact HTn.out i hi
  · rw [set2 _ _ _ _ _ (by omega) (by omega) (by omega), if_neg (by omega), if_pos rfl]
  · rw [← hk2] at hR4
    exact row_byte W3 _ 0 _ _ _ 48 hR4 (by decide) (by decide)
  · rw [← hk2] at hR4
    exact row_byte W3 _ 1 _ _ _ 49 hR4 (by decide) (by decide)
  · rw [← hk1] at hR4'
    exact row_byte W3 _ 0 _ _ _ 48 hR4' (by decide) (by decide)
  · rw [hown4.cellAt 0 (by omega)]; rfl
  · rw [hown4.cellAt 1 (by omega)]; rfl
end Go.Proofs.YtpnnhmeaccdjpaaGreatDoor
