/- form: the names and numbers of a line. -/
import Derived.Test.YtkfdcccgpphcmaaGreatDoorNumber
import Derived.Test.YtkfdcccgpphcmaaGreatDoorLine
import Derived.Test.YtkfdcccgpphcmaaGreatDoorWords
import Derived.Test.YtkfdcccgpphcmaaGreatDoorPush
namespace Go.Proofs.YtkfdcccgpphcmaaGreatDoor
open Go.RowKit Go.Shelf

/-- One word of a line, by its sort. -/
def one (c : UInt8) (x : ByteArray) : Option (List ByteArray × List Int) :=
  if c.toNat = 110 then (if nameB x = true then some ([x], []) else none) else (numOf x.data.toList (c.toNat == 115)).map fun v => ([], [v])
/-- All words. -/
def formZ : List (UInt8 × ByteArray) → Option (List ByteArray × List Int)
  | [] => some ([], [])
  | z :: r => (one z.1 z.2).bind fun a => (formZ r).map fun b => (a.1 ++ b.1, a.2 ++ b.2)
theorem formZ_append : ∀ a b, formZ (a ++ b) = (formZ a).bind fun x => (formZ b).map fun y => (x.1 ++ y.1, x.2 ++ y.2)
  | [], b => by cases h : formZ b <;> simp [formZ, h]
  | z :: r, b => by
    rw [List.cons_append, formZ, formZ, formZ_append r b]
    cases one z.1 z.2 <;> cases formZ r <;> cases formZ b <;> simp
theorem formZ_snoc (l : List (UInt8 × ByteArray)) (k : Nat) (h : k < l.length) : formZ (l.take (k + 1)) = (formZ (l.take k)).bind fun x => (one l[k].1 l[k].2).map fun y => (x.1 ++ y.1, x.2 ++ y.2) := by
  rw [List.take_succ_eq_append_getElem h, formZ_append]
  cases formZ (l.take k) <;> simp [formZ]
  cases one l[k].1 l[k].2 <;> simp
theorem formZ_bad (l : List (UInt8 × ByteArray)) (k : Nat) (h : k < l.length) (h1 : one l[k].1 l[k].2 = none) : formZ l = none := by
  have e : formZ (l.take (k + 1)) = none := by rw [formZ_snoc l k h, h1]; cases formZ (l.take k) <;> rfl
  have := formZ_append (l.take (k + 1)) (l.drop (k + 1))
  rw [List.take_append_drop, e] at this
  exact this
theorem one_len {c : UInt8} {x : ByteArray} {a : List ByteArray × List Int} (h : one c x = some a) : a.1.length + a.2.length = 1 := by
  unfold one at h
  split at h
  · split at h
    · injection h with h; subst h; rfl
    · cases h
  · cases hn : numOf x.data.toList (c.toNat == 115) with
    | none => rw [hn] at h; cases h
    | some v => rw [hn] at h; injection h with h; subst h; rfl
theorem formZ_len : ∀ (l : List (UInt8 × ByteArray)) (nm : List ByteArray) (nu : List Int), formZ l = some (nm, nu) → l.length = nm.length + nu.length
  | [], nm, nu, h => by injection h with h; injection h with h1 h2; subst h1; subst h2; rfl
  | z :: r, nm, nu, h => by
    rw [formZ] at h
    cases h1 : one z.1 z.2 with
    | none => rw [h1] at h; cases h
    | some a =>
      rw [h1] at h
      cases h2 : formZ r with
      | none => rw [h2] at h; cases h
      | some b =>
        rw [h2] at h
        have e1 := one_len h1
        have e2 := formZ_len r b.1 b.2 h2
        injection h with h
        injection h with ha hb
        subst ha; subst hb
        simp
        omega
/-- The names and numbers of words, by the sorts. -/
def formL (so : List UInt8) (ws : List ByteArray) : Option (List ByteArray × List Int) := if so.length = ws.length then formZ (so.zip ws) else none

/-- The world while form reads words. -/
structure FormAt (w0 : World) (br bs bo : Nat) (ps : List ByteArray) (v1 v2 : Value) (nm : List ByteArray) (nu : List Int) (w : World) : Prop where
  res : Blk w br 134 #[.slice none 0 0, .slice none 0 0]
  wds : Blk w bs 9 (ps.map Value.string).toArray
  out : Blk w bo 134 #[v1, v2]
  o1 : w.ownsRow (bo + 1) 9 1 v1 nm.length (nm.map Value.string)
  o2 : w.ownsRow (bo + 1) 3 1 v2 nu.length (nu.map (Value.int .i64))
  l1 : w0.heap.size ≤ br
  l2 : br < bs
  l3 : bs < bo
  bel : Below w0.heap.size w0 w

theorem infoString : (Tryz.prog.info? 9).map (fun i => (i.zero, i.size, i.bytes)) = some (some (.string ⟨#[]⟩), 1, 16) := by kernel_rfl
theorem infoInt : (Tryz.prog.info? 3).map (fun i => (i.zero, i.size, i.bytes)) = some (some (.int .i64 0), 1, 8) := by kernel_rfl
/-- What form returns. -/
def FormPost (w : World) (r : Option (List ByteArray × List Int)) (e : Ending) (w' : World) : Prop :=
  match r with
  | some (nm, nu) => ∃ v1 v2, e = .returned (.tuple #[.agg #[v1, v2], .bool true]) ∧ w'.ownsRow w.heap.size 9 1 v1 nm.length (nm.map Value.string) ∧ w'.ownsRow w.heap.size 3 1 v2 nu.length (nu.map (Value.int .i64)) ∧ Below w.heap.size w w'
  | none => e = .returned (.tuple #[.agg #[.slice none 0 0, .slice none 0 0], .bool false]) ∧ Below w.heap.size w w'

/-- Words of a line: short, and ASCII. -/
def wordsOk (l : List ByteArray) : Prop := ∀ x, x ∈ l → x.size ≤ 1000 ∧ ∀ k, (hk : k < x.size) → (x[k]'hk).toNat < 128

set_option maxRecDepth 100000 in
theorem form_len {B : Nat} (w : World) (hB : Base B w) (s : ByteArray) (hs : s.size ≤ 1000) (so : ByteArray) (hso : so.size ≤ 20) (hp2 : 2 ≤ (pieces s).length) (hsuf : Lib.hasSuffix so.data.toList [43] = false) (hne : (pieces s).length ≠ so.size + 1) :
    Calls Tryz.prog 104 #[.string s, .string so] w fun e w' => e = .returned (.tuple #[.agg #[.slice none 0 0, .slice none 0 0], .bool false]) ∧ Below w.heap.size w w' := by
  have hsp := fun W hW => split_ok (B := B) W hW s (by omega)
  have hlen := pieces_len s
  have hle := Lib.countB_le ⟨#[32]⟩ (by decide) s.size s (Nat.le_refl _)
  have hl : (pieces s).length ≤ 1001 := by omega
  have hcut : ∀ W, Calls Tryz.prog 160 #[.string so, .string ⟨#[43]⟩] W fun e w' => e = .returned (.tuple #[.string so, .bool false]) ∧ W = w' := fun W =>
    (Any.strings_CutSuffix Tryz.lays104 so ⟨#[43]⟩ W (by omega)).mono fun e w' ⟨he, hw⟩ => ⟨by
      rw [he, hsuf]
      unfold Lib.trimSuffix
      rw [hsuf]
      rfl, hw.symm⟩
  clear hlen hle hsuf
  generalize pieces s = ps at hsp hl hp2 hne
  have hpl := ps.length_map (f := Value.string)
  obtain ⟨n, hn⟩ : ∃ n, ps.length = n + 1 := ⟨ps.length - 1, by omega⟩
  rw [hn] at hsp hpl hl hp2 hne
  clear hn
  have b1 : ((n : Int) == so.size) = false := by simp; omega
  have z1 : n ≠ 0 := by omega
  clear hne
  have HPL := Lib.hid hpl
  clear hpl
  go_enter Tryz.func104, Tryz.ntmps104
  go_wp2_with fail
  obtain ⟨w1, hw1⟩ : ∃ w1, w1 = w.alloc (.cells #[.slice none 0 0, .slice none 0 0] 134) := ⟨_, rfl⟩
  have hb1 : Below w.heap.size w w1 := hw1 ▸ (Below.refl _ _).alloc (Nat.le_refl _) _
  have hk1 : Blk w1 w.heap.size 134 #[.slice none 0 0, .slice none 0 0] := hw1 ▸ Blk.new _ _ _
  rw [← hw1]
  have HW1 := Lib.hid hw1
  clear hw1
  refine (hsp w1 (hB.on hb1)).mono ?_
  rintro e w' ⟨rfl, rfl⟩
  obtain ⟨w2, hw2⟩ : ∃ w2, w2 = w1.alloc (.cells (List.map Value.string ps).toArray 9) := ⟨_, rfl⟩
  have hb2 : Below w.heap.size w w2 := hw2 ▸ hb1.alloc hb1.size _
  have hk2 : Blk w2 w.heap.size 134 #[.slice none 0 0, .slice none 0 0] := hw2 ▸ hk1.alloc _
  have hps : Blk w2 w1.heap.size 9 (List.map Value.string ps).toArray := hw2 ▸ Blk.new _ _ _
  have hlt : w.heap.size < w1.heap.size := hk1.lt
  rw [← hw2]
  have HW2 := Lib.hid hw2
  clear hw2
  have c0 := hk2.cell 0
  have c1 := hk2.cell 1
  have f0 := hk2.frozen 0
  have f1 := hk2.frozen 1
  simp only [List.getElem?_toArray, List.getElem?_cons_zero, List.getElem?_cons_succ] at c0 c1
  go_wp2_with fail
  refine (hcut _).mono ?_
  rintro e w' ⟨rfl, rfl⟩
  go_wp2_with fail
  refine bodyPost_ret (v := .tuple #[.agg #[.slice none 0 0, .slice none 0 0], .bool false]) (by simp [results, Tryz.results104, go_sem, c0, c1]) rfl ⟨rfl, ?_⟩
  exact (hb2.setCell (by simp) _).setCell (by simp) _
set_option maxRecDepth 100000 in
theorem form_loop {B : Nat} (w : World) (hB : Base B w) (s : ByteArray) (hs : s.size ≤ 1000) (so : ByteArray) (hso : so.size ≤ 20) (hp2 : 2 ≤ (pieces s).length) (hsuf : Lib.hasSuffix so.data.toList [43] = false) (hne : (pieces s).length = so.size + 1) (hwo : wordsOk (pieces s).tail) :
    Calls Tryz.prog 104 #[.string s, .string so] w (FormPost w (formZ (so.data.toList.zip (pieces s).tail))) := by
  have hsp := fun W hW => split_ok (B := B) W hW s (by omega)
  have hlen := pieces_len s
  have hle := Lib.countB_le ⟨#[32]⟩ (by decide) s.size s (Nat.le_refl _)
  have hl : (pieces s).length ≤ 1001 := by omega
  have hcut : ∀ W, Calls Tryz.prog 160 #[.string so, .string ⟨#[43]⟩] W fun e w' => e = .returned (.tuple #[.string so, .bool false]) ∧ W = w' := fun W =>
    (Any.strings_CutSuffix Tryz.lays104 so ⟨#[43]⟩ W (by omega)).mono fun e w' ⟨he, hw⟩ => ⟨by
      rw [he, hsuf]
      unfold Lib.trimSuffix
      rw [hsuf]
      rfl, hw.symm⟩
  clear hlen hle hsuf
  generalize pieces s = ps at hsp hl hp2 hne hwo ⊢
  have HWO := Lib.hid hwo
  clear hwo
  have hpl := ps.length_map (f := Value.string)
  obtain ⟨n, hn⟩ : ∃ n, ps.length = n + 1 := ⟨ps.length - 1, by omega⟩
  rw [hn] at hsp hpl hl hp2 hne
  clear hn
  have b1 : ((n : Int) != so.size) = false := by simp; omega
  have z1 : n ≠ 0 := by omega
  have HN := Lib.hid (show n = so.size by omega)
  clear hne
  have HPL := Lib.hid hpl
  clear hpl
  go_enter Tryz.func104, Tryz.ntmps104
  go_wp2_with fail
  obtain ⟨w1, hw1⟩ : ∃ w1, w1 = w.alloc (.cells #[.slice none 0 0, .slice none 0 0] 134) := ⟨_, rfl⟩
  have hb1 : Below w.heap.size w w1 := hw1 ▸ (Below.refl _ _).alloc (Nat.le_refl _) _
  have hk1 : Blk w1 w.heap.size 134 #[.slice none 0 0, .slice none 0 0] := hw1 ▸ Blk.new _ _ _
  rw [← hw1]
  have HW1 := Lib.hid hw1
  clear hw1
  refine (hsp w1 (hB.on hb1)).mono ?_
  rintro e w' ⟨rfl, rfl⟩
  obtain ⟨w2, hw2⟩ : ∃ w2, w2 = w1.alloc (.cells (List.map Value.string ps).toArray 9) := ⟨_, rfl⟩
  have hb2 : Below w.heap.size w w2 := hw2 ▸ hb1.alloc hb1.size _
  have hk2 : Blk w2 w.heap.size 134 #[.slice none 0 0, .slice none 0 0] := hw2 ▸ hk1.alloc _
  have hps : Blk w2 w1.heap.size 9 (List.map Value.string ps).toArray := hw2 ▸ Blk.new _ _ _
  have hlt : w.heap.size < w1.heap.size := hk1.lt
  rw [← hw2]
  have HW2 := Lib.hid hw2
  clear hw2
  have c0 := hk2.cell 0
  have c1 := hk2.cell 1
  have f0 := hk2.frozen 0
  have f1 := hk2.frozen 1
  simp only [List.getElem?_toArray, List.getElem?_cons_zero, List.getElem?_cons_succ] at c0 c1
  go_wp2_with fail
  refine (hcut _).mono ?_
  rintro e w' ⟨rfl, rfl⟩
  go_wp2_with fail
  have hlt2 : w1.heap.size < w2.heap.size := hps.lt
  obtain ⟨w3, hw3⟩ : ∃ w3, w3 = w2.alloc (.cells #[.slice none 0 0, .slice none 0 0] 134) := ⟨_, rfl⟩
  have hF : FormAt w w.heap.size w1.heap.size w2.heap.size ps (.slice none 0 0) (.slice none 0 0) [] [] w3 :=
    ⟨hw3 ▸ hk2.alloc _, hw3 ▸ hps.alloc _, hw3 ▸ Blk.new _ _ _, ⟨rfl, .inl ⟨rfl, rfl⟩⟩, ⟨rfl, .inl ⟨rfl, rfl⟩⟩, Nat.le_refl _, hlt, hlt2, hw3 ▸ hb2.alloc hb2.size _⟩
  rw [← hw3]
  have HF := Lib.hid hF
  have HW3 := Lib.hid hw3
  clear hF hw3 c0 c1 f0 f1
  go_loopw [12, 13, 14, 15, 56] (fun _ _ _ _ i wr => ∃ (k : Nat) (A1 A2 : Option Addr) (e1 e2 : Nat) (nm : List ByteArray) (nu : List Int), k ≤ n ∧ i = .int .i64 k ∧ Hid (formZ ((so.data.toList.zip ps.tail).take k) = some (nm, nu)) ∧ Hid (FormAt w w.heap.size w1.heap.size w2.heap.size ps (.slice A1 nm.length e1) (.slice A2 nu.length e2) nm nu wr)) (fun _ _ _ _ i _ => n - (intOf i).toNat)
  case atStart => exact ⟨0, none, none, 0, 0, [], [], Nat.zero_le _, rfl, rfl, HF.out⟩
  case round =>
    obtain ⟨k, A1, A2, e1, e2, nm, nu, hk, rfl, hZ, hR⟩ := hrel
    have hR' := hR.out
    have hzl : (so.data.toList.zip ps.tail).length = n := by
      have := HPL.out
      have h2 := HN.out
      have h3 := Lib.size_eq so
      simp at this
      simp [List.length_zip]
      omega
    by_cases hlt : k < n
    · have htl : k < ps.tail.length := by simp [List.length_zip] at hzl; simp; omega
      have cx : wr.cell? ⟨w1.heap.size, 1 + k, none⟩ = some (.string (ps.tail[k]'htl)) := by
        rw [hR'.wds.cell]
        have h1 : 1 + k < ps.length := by simp at htl; omega
        simp [h1, Nat.add_comm 1 k]
      have c0 : wr.cell? ⟨w2.heap.size, 0, none⟩ = some (.slice A1 nm.length e1) := hR'.out.cell 0
      have c1 : wr.cell? ⟨w2.heap.size, 1, none⟩ = some (.slice A2 nu.length e2) := hR'.out.cell 1
      have f0 := hR'.out.frozen 0
      have f1 := hR'.out.frozen 1
      have g0 : wr.frozen? ⟨w.heap.size, 0, none⟩ = false := hR'.res.frozen 0
      have g1 : wr.frozen? ⟨w.heap.size, 1, none⟩ = false := hR'.res.frozen 1
      have q0 : wr.cell? ⟨w.heap.size, 0, none⟩ = some (.slice none 0 0) := hR'.res.cell 0
      have q1 : wr.cell? ⟨w.heap.size, 1, none⟩ = some (.slice none 0 0) := hR'.res.cell 1
      have hso : k < so.size := by rw [← HN.out]; exact hlt
      have hx := HWO.out _ (List.getElem_mem htl)
      have hz1 : k < (so.data.toList.zip ps.tail).length := by rw [hzl]; exact hlt
      have hzk : (so.data.toList.zip ps.tail)[k]'hz1 = (so[k], ps.tail[k]'htl) := by
        rw [List.getElem_zip]; rfl
      have hstep := formZ_snoc _ k hz1
      have hbad := formZ_bad _ k hz1
      rw [hzk] at hstep hbad
      rw [hZ.out] at hstep
      have hnm : nm.length + nu.length = k := formZ_len _ _ _ hZ.out ▸ (by rw [List.length_take]; omega)
      have HNM := Lib.hid (show nm.length ≤ 1000 ∧ nu.length ≤ 1000 from by omega)
      clear hnm
      have HLT3 := Lib.hid (show w2.heap.size + 1 ≤ wr.heap.size from hR'.out.lt)
      have HST := Lib.hid hstep
      have HBAD := Lib.hid hbad
      have HX := Lib.hid hx
      clear hstep hbad hzk hx hzl
      generalize ps.tail[k]'htl = x at cx HST HBAD HX
      clear hR'
      by_cases hc : (so[k]).toNat = 110
      · have bc : (((so[k]).toNat : Int) == 110) = true := by rw [hc]; rfl
        have HC := Lib.hid hc
        clear hc
        go_wp2_with fail
        refine (isName_ok x wr HX.out.2).mono ?_
        rintro e w4 ⟨rfl, hO⟩
        have l2 := hR.out.l2
        have l3 := hR.out.l3
        have q0' : w4.cell? ⟨w.heap.size, 0, none⟩ = some (.slice none 0 0) := (hO.blk hR.out.res (by simp)).cell 0
        have q1' : w4.cell? ⟨w.heap.size, 1, none⟩ = some (.slice none 0 0) := (hO.blk hR.out.res (by simp)).cell 1
        have g0' : w4.frozen? ⟨w.heap.size, 0, none⟩ = false := (hO.blk hR.out.res (by simp)).frozen 0
        have g1' : w4.frozen? ⟨w.heap.size, 1, none⟩ = false := (hO.blk hR.out.res (by simp)).frozen 1
        have c0' : w4.cell? ⟨w2.heap.size, 0, none⟩ = some (.slice A1 nm.length e1) := (hO.blk hR.out.out (by simp)).cell 0
        have f0' : w4.frozen? ⟨w2.heap.size, 0, none⟩ = false := (hO.blk hR.out.out (by simp)).frozen 0
        have hb4 : Below w.heap.size w w4 := Only.fresh hR.out.bel hO (by simp)
        have hO1 := hO.own hR.out.o1 (by simp)
        clear c0 c1 f0 f1 g0 g1 q0 q1 cx
        cases hnb : nameB x
        · have hz : formZ (so.data.toList.zip ps.tail) = none := HBAD.out (by unfold one; rw [if_pos HC.out, hnb]; rfl)
          have HZ := Lib.hid hz
          have HNB := Lib.hid hnb
          clear hnb hz
          go_wp2_with fail
          refine bodyPost_ret (v := .tuple #[.agg #[.slice none 0 0, .slice none 0 0], .bool false]) (by simp [results, Tryz.results104, go_sem, q0', q1']) rfl ?_
          rw [HZ.out]
          refine ⟨rfl, ?_⟩
          exact (hb4.setCell (by simp) _).setCell (by simp) _
        · have hstep : one so[k] x = some ([x], []) := by unfold one; rw [if_pos HC.out, hnb]; rfl
          have HSTEP := Lib.hid hstep
          have HNB := Lib.hid hnb
          clear hnb hstep
          obtain ⟨i0, hi, hz0, hz1, hz2⟩ := info_parts infoString
          go_wp2_with (at_builtin; go_must (refine wpList_push rfl _ _ 22 rfl (w2.heap.size + 1) 9 i0 (.string ⟨#[]⟩) 1 16 Tryz.underlying22 hi hz0 hz1 hz2 rfl (by decide) _ _ _ rfl hO1 #[.string x] _ rfl rfl rfl ?c1 ?c2 ?c3 ?c4 ?_))
          case c1 => rfl
          case c2 => have := HNM.out; omega
          case c3 => omega
          case c4 => have := hO.size; have := HLT3.out; omega
          intro v' w5 hown5 hO5 _ hbl5
          obtain ⟨A', c', rfl⟩ := own_slice hown5
          have hout5 := hO5.blk (hO.blk hR.out.out (by simp)) (fun h => by have := (own_ge hO1 h).1; omega)
          have c5 : w5.cell? ⟨w2.heap.size, 0, none⟩ = some (.slice A1 nm.length e1) := hout5.cell 0
          have f5 := hout5.frozen 0
          go_wp2_with fail
          have hF5 : FormAt w w.heap.size w1.heap.size w2.heap.size ps (.slice A' (nm.length + 1) c') (.slice A2 nu.length e2) (nm ++ [x]) nu (w5.setCell ⟨w2.heap.size, 0, none⟩ (.slice A' (nm.length + 1) c')) := by
            have hR' := hR.out
            have n1 : ∀ g, g ≤ w2.heap.size → g ∉ blocksOf (.slice A1 nm.length e1) := fun g hg h => by have := (own_ge hO1 h).1; omega
            have hOO : Only [w2.heap.size] w5 (w5.setCell ⟨w2.heap.size, 0, none⟩ (.slice A' (nm.length + 1) c')) := (Only.refl _ _).set_ (by simp) _
            refine ⟨hOO.blk (hO5.blk (hO.blk hR'.res (by simp)) (n1 _ (by omega))) (by simp; omega), hOO.blk (hO5.blk (hO.blk hR'.wds (by simp)) (n1 _ (by omega))) (by simp; omega), ?_, ?_, ?_, hR'.l1, hR'.l2, hR'.l3, ?_⟩
            · exact hout5.set_ 0 _
            · have := hOO.own hown5 (fun g hg => by have := (own_ge hown5 hg).1; simp; omega)
              simpa using this
            · have h2 := hO.own hR'.o2 (by simp)
              exact hOO.own (hO5.own h2 (fun g hg hg2 => own_own_ne h2 hO1 (by decide) g hg hg2)) (fun g hg => by have := (own_ge h2 hg).1; simp; omega)
            · exact Only.fresh (Only.fresh hb4 hO5 (fun g hg => by have := (own_ge hO1 hg).1; omega)) hOO (by simp; omega)
          go_roundw
          case rel =>
            refine ⟨k + 1, A', A2, c', e2, nm ++ [x], nu, by omega, by go_num, ?_, ?_⟩
            · show _ = _
              rw [HST.out, HSTEP.out]
              simp
            · show FormAt _ _ _ _ _ _ _ _ _ _
              simpa using hF5
          case measure => simp [intOf]; omega
      · have bc : (((so[k]).toNat : Int) == 110) = false := by simp; omega
        have HC := Lib.hid hc
        clear hc
        go_wp2_with fail
        refine (number_ok wr (hB.on hR.out.bel) x _ HX.out.1).mono ?_
        rintro e w4 ⟨rfl, hb0⟩
        have hO : Only [] wr w4 := Only.of_below hb0
        have l2 := hR.out.l2
        have l3 := hR.out.l3
        have q0' : w4.cell? ⟨w.heap.size, 0, none⟩ = some (.slice none 0 0) := (hO.blk hR.out.res (by simp)).cell 0
        have q1' : w4.cell? ⟨w.heap.size, 1, none⟩ = some (.slice none 0 0) := (hO.blk hR.out.res (by simp)).cell 1
        have g0' : w4.frozen? ⟨w.heap.size, 0, none⟩ = false := (hO.blk hR.out.res (by simp)).frozen 0
        have g1' : w4.frozen? ⟨w.heap.size, 1, none⟩ = false := (hO.blk hR.out.res (by simp)).frozen 1
        have c0' : w4.cell? ⟨w2.heap.size, 1, none⟩ = some (.slice A2 nu.length e2) := (hO.blk hR.out.out (by simp)).cell 1
        have f0' : w4.frozen? ⟨w2.heap.size, 1, none⟩ = false := (hO.blk hR.out.out (by simp)).frozen 1
        have hb4 : Below w.heap.size w w4 := Only.fresh hR.out.bel hO (by simp)
        have hO1 := hO.own hR.out.o2 (by simp)
        clear c0 c1 f0 f1 g0 g1 q0 q1 cx
        have hsg : (((so[k]).toNat : Int) == 115) = ((so[k]).toNat == 115) := by rw [Bool.eq_iff_iff]; simp; omega
        rw [hsg]
        unfold numR
        have HSG := Lib.hid hsg
        clear hsg
        cases hnb : numOf x.data.toList ((so[k]).toNat == 115)
        · have hz : formZ (so.data.toList.zip ps.tail) = none := HBAD.out (by unfold one; rw [if_neg HC.out, hnb]; rfl)
          have HZ := Lib.hid hz
          have HNB := Lib.hid hnb
          clear hnb hz
          go_wp2_with fail
          refine bodyPost_ret (v := .tuple #[.agg #[.slice none 0 0, .slice none 0 0], .bool false]) (by simp [results, Tryz.results104, go_sem, q0', q1']) rfl ?_
          rw [HZ.out]
          refine ⟨rfl, ?_⟩
          exact (hb4.setCell (by simp) _).setCell (by simp) _
        · rename_i v
          have hstep : one so[k] x = some ([], [v]) := by unfold one; rw [if_neg HC.out, hnb]; rfl
          have hvb := numOf_bound hnb
          have hv1 := hvb.1
          have hv2 := hvb.2.1
          clear hvb
          have HSTEP := Lib.hid hstep
          have HNB := Lib.hid hnb
          clear hnb hstep
          obtain ⟨i0, hi, hz0, hz1, hz2⟩ := info_parts infoInt
          go_wp2_with (at_builtin; go_must (refine wpList_push rfl _ _ 41 rfl (w2.heap.size + 1) 3 i0 (.int .i64 0) 1 8 Tryz.underlying41 hi hz0 hz1 hz2 rfl (by decide) _ _ _ rfl hO1 #[.int .i64 v] _ rfl rfl rfl ?c1 ?c2 ?c3 ?c4 ?_))
          case c1 => rfl
          case c2 => have := HNM.out; omega
          case c3 => omega
          case c4 => have := hO.size; have := HLT3.out; omega
          intro v' w5 hown5 hO5 _ hbl5
          obtain ⟨A', c', rfl⟩ := own_slice hown5
          have hout5 := hO5.blk (hO.blk hR.out.out (by simp)) (fun h => by have := (own_ge hO1 h).1; omega)
          have c5 : w5.cell? ⟨w2.heap.size, 1, none⟩ = some (.slice A2 nu.length e2) := hout5.cell 1
          have f5 := hout5.frozen 1
          go_wp2_with fail
          have hF5 : FormAt w w.heap.size w1.heap.size w2.heap.size ps (.slice A1 nm.length e1) (.slice A' (nu.length + 1) c') nm (nu ++ [v]) (w5.setCell ⟨w2.heap.size, 1, none⟩ (.slice A' (nu.length + 1) c')) := by
            have hR' := hR.out
            have n1 : ∀ g, g ≤ w2.heap.size → g ∉ blocksOf (.slice A2 nu.length e2) := fun g hg h => by have := (own_ge hO1 h).1; omega
            have hOO : Only [w2.heap.size] w5 (w5.setCell ⟨w2.heap.size, 1, none⟩ (.slice A' (nu.length + 1) c')) := (Only.refl _ _).set_ (by simp) _
            refine ⟨hOO.blk (hO5.blk (hO.blk hR'.res (by simp)) (n1 _ (by omega))) (by simp; omega), hOO.blk (hO5.blk (hO.blk hR'.wds (by simp)) (n1 _ (by omega))) (by simp; omega), ?_, ?_, ?_, hR'.l1, hR'.l2, hR'.l3, ?_⟩
            · exact hout5.set_ 1 _
            · have h2 := hO.own hR'.o1 (by simp)
              exact hOO.own (hO5.own h2 (fun g hg hg2 => own_own_ne h2 hO1 (by decide) g hg hg2)) (fun g hg => by have := (own_ge h2 hg).1; simp; omega)
            · have := hOO.own hown5 (fun g hg => by have := (own_ge hown5 hg).1; simp; omega)
              simpa using this
            · exact Only.fresh (Only.fresh hb4 hO5 (fun g hg => by have := (own_ge hO1 hg).1; omega)) hOO (by simp; omega)
          go_roundw
          case rel =>
            refine ⟨k + 1, A1, A', e1, c', nm, nu ++ [v], by omega, by go_num, ?_, ?_⟩
            · show _ = _
              rw [HST.out, HSTEP.out]
              simp
            · show FormAt _ _ _ _ _ _ _ _ _ _
              simpa using hF5
          case measure => simp [intOf]; omega
    · obtain rfl : k = n := by omega
      have c0 : wr.cell? ⟨w2.heap.size, 0, none⟩ = some (.slice A1 nm.length e1) := hR'.out.cell 0
      have c1 : wr.cell? ⟨w2.heap.size, 1, none⟩ = some (.slice A2 nu.length e2) := hR'.out.cell 1
      have g0 : wr.frozen? ⟨w.heap.size, 0, none⟩ = false := hR'.res.frozen 0
      have g1 : wr.frozen? ⟨w.heap.size, 1, none⟩ = false := hR'.res.frozen 1
      have q0 : wr.cell? ⟨w.heap.size, 0, none⟩ = some (.slice none 0 0) := hR'.res.cell 0
      have q1 : wr.cell? ⟨w.heap.size, 1, none⟩ = some (.slice none 0 0) := hR'.res.cell 1
      have hne1 : w.heap.size ≠ w2.heap.size := by omega
      have HZL := Lib.hid hzl
      clear hR' hzl
      go_wp2_with fail
      refine bodyPost_ret (v := .tuple #[.agg #[.slice A1 nm.length e1, .slice A2 nu.length e2], .bool true]) (by simp [results, Tryz.results104, go_sem, q0, q1]) rfl ?_
      have hz : formZ (so.data.toList.zip ps.tail) = some (nm, nu) := by
        rw [← hZ.out, List.take_of_length_le (Nat.le_of_eq HZL.out)]
      rw [hz]
      have hR' := hR.out
      have hO : Only [w.heap.size] wr ((wr.setCell ⟨w.heap.size, 0, none⟩ (.slice A1 nm.length e1)).setCell ⟨w.heap.size, 1, none⟩ (.slice A2 nu.length e2)) := ((Only.refl _ _).set_ (by simp) _).set_ (by simp) _
      have l2 := hR'.l2
      have l3 := hR'.l3
      exact ⟨_, _, rfl, own_mono (hO.own hR'.o1 (fun g hg => by have := own_ge hR'.o1 hg; simp; omega)) (by omega), own_mono (hO.own hR'.o2 (fun g hg => by have := own_ge hR'.o2 hg; simp; omega)) (by omega), Only.fresh hR'.bel hO (by simp)⟩

theorem form_two {B : Nat} (w : World) (hB : Base B w) (s : ByteArray) (hs : s.size ≤ 1000) (so : ByteArray) (hso : so.size ≤ 20) (hp2 : 2 ≤ (pieces s).length) (hsuf : Lib.hasSuffix so.data.toList [43] = false) (hwo : wordsOk (pieces s).tail) :
    Calls Tryz.prog 104 #[.string s, .string so] w (FormPost w (formL so.data.toList (pieces s).tail)) := by
  have e : so.data.toList.length = (pieces s).tail.length ↔ (pieces s).length = so.size + 1 := by
    rw [← Lib.size_eq, List.length_tail]
    omega
  by_cases h : (pieces s).length = so.size + 1
  · rw [formL, if_pos (e.2 h)]
    exact form_loop w hB s hs so hso hp2 hsuf h hwo
  · rw [formL, if_neg (fun x => h (e.1 x))]
    exact form_len w hB s hs so hso hp2 hsuf h
end Go.Proofs.YtkfdcccgpphcmaaGreatDoor
