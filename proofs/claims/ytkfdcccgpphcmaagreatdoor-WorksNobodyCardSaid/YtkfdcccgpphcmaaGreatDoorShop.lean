/- Works over a disk: Do. -/
import Derived.Test.YtkfdcccgpphcmaaGreatDoorDo
import Derived.Test.YtkfdcccgpphcmaaGreatDoorWorks
import Derived.Test.YtkfdcccgpphcmaaGreatDoorPaged
import Derived.Test.YtkfdcccgpphcmaaGreatDoorDisk2
import Derived.Deep.RegionHeld3
namespace Go.Proofs.YtkfdcccgpphcmaaGreatDoor
open Go.RowKit Go.Shelf

/-- Works at block bw over the disk at bd, bp: books S, journal L. -/
structure Shop (B : Nat) (w : World) (bw bd bp bs : Nat) (D : Dk) (S : St) (L : List ByteArray) (A : Option Addr) (c : Nat) (safe : Int) (lost : Bool) : Prop where
  wk : WorksAt w bw bd bs A L.length c safe lost
  dk : DiskAt w bd bp D
  st : StateAt 0 w bs S
  jr : w.ownsRow B 9 1 (.slice A L.length c) L.length (L.map Value.string)
  b1 : B ≤ bw
  b2 : B ≤ bd
  b3 : B ≤ bp
  ln : L.length ≤ D.now.length
theorem Shop.on {B : Nat} {w w' : World} {bw bd bp bs : Nat} {D : Dk} {S : St} {L : List ByteArray} {A : Option Addr} {c : Nat} {safe : Int} {lost : Bool} (h : Shop B w bw bd bp bs D S L A c safe lost) (hb : Below w.heap.size w w') : Shop B w' bw bd bp bs D S L A c safe lost :=
  ⟨h.wk.below hb h.wk.lt, ⟨h.dk.head.below hb h.dk.head.lt, h.dk.rows.below hb h.dk.rows.lt, h.dk.len, h.dk.lo, h.dk.hi, h.dk.flo, h.dk.fhi⟩, h.st.below hb, own_on hb h.jr, h.b1, h.b2, h.b3, h.ln⟩

set_option maxRecDepth 100000 in
set_option maxHeartbeats 800000 in
theorem do_bad {B : Nat} (w : World) (hB : Base B w) (bw bd bp bs : Nat) (D : Dk) (S : St) (L : List ByteArray) (A : Option Addr) (c : Nat) (safe : Int) (h : Shop B w bw bd bp bs D S L A c safe false) (text : ByteArray) (r : Res) (hr : r.2.1 ≠ 0)
    (hdo : ∀ W, Base B W → StateAt 0 W bs S → Calls Tryz.prog 52 #[.pointer (some ⟨bs, 0, none⟩), .string text] W (DoPost W bs r)) :
    Calls Tryz.prog 27 #[.pointer (some ⟨bw, 0, none⟩), .string text] w fun e w' => e = .returned (.tuple #[.string ⟨#[]⟩, .int .i64 r.2.1]) ∧ Below w.heap.size w w' := by
  have hn := wready_ok w bw bd bs A L.length c safe false h.wk
  have c1 : w.cell? ⟨bw, 1, none⟩ = some (.pointer (some ⟨bs, 0, none⟩)) := Blk.cell h.wk 1
  have hd := hdo w hB h.st
  have c0 : (r.2.1 == 0) = false := by simpa using hr
  have HR := Lib.hid hr
  clear hr hdo
  go_enter Tryz.func27, Tryz.ntmps27
  go_wp2_with fail
  refine hn.mono ?_
  rintro e w' ⟨rfl, rfl⟩
  go_wp2_with fail
  refine hd.mono ?_
  rintro e w1 ⟨b', rfl, hb1, _, _⟩
  rw [if_neg HR.out]
  go_wp2_with fail
  go_ret2
  exact ⟨rfl, hb1⟩

/-- What the page of a change has. -/
def pageOf (k : Nat) (text : ByteArray) : ByteArray := ⟨(Lib.itoa k).toArray⟩ ++ ⟨#[32]⟩ ++ text
theorem append_size (a b : ByteArray) : (a ++ b).size = a.size + b.size := ByteArray.size_append
theorem pageOf_size (k : Nat) (hk : k ≤ 1000) (text : ByteArray) (ht : text.size ≤ 60) : (pageOf k text).size ≤ 80 := by
  unfold pageOf
  rw [append_size, append_size]
  have h : (Lib.itoa k).length ≤ 4 := by
    rw [Lib.itoa_nonneg, Lib.decDigits_length]
    rcases Nat.lt_or_ge k 10 with h1 | h1
    · rw [Lib.nDigits_small h1]; omega
    rw [Lib.nDigits_big (by omega)]
    rcases Nat.lt_or_ge (k / 10) 10 with h2 | h2
    · rw [Lib.nDigits_small h2]; omega
    rw [Lib.nDigits_big (by omega)]
    rcases Nat.lt_or_ge (k / 10 / 10) 10 with h3 | h3
    · rw [Lib.nDigits_small h3]; omega
    rw [Lib.nDigits_big (by omega), Lib.nDigits_small (by omega)]
    omega
  have e : (⟨(Lib.itoa k).toArray⟩ : ByteArray).size = (Lib.itoa k).length := by show (Lib.itoa k).toArray.size = _; simp
  have e2 : (⟨#[32]⟩ : ByteArray).size = 1 := rfl
  omega

set_option maxRecDepth 100000 in
set_option maxHeartbeats 1600000 in
theorem do_good {B : Nat} (w : World) (hB : Base B w) (bw bd bp bs : Nat) (D : Dk) (S : St) (L : List ByteArray) (A : Option Addr) (c : Nat) (safe : Int) (h : Shop B w bw bd bp bs D S L A c safe false) (text : ByteArray) (r : Res) (hr : r.2.1 = 0)
    (hdo : ∀ W, Base B W → StateAt 0 W bs S → Calls Tryz.prog 52 #[.pointer (some ⟨bs, 0, none⟩), .string text] W (DoPost W bs r)) (ht : text.size ≤ 60)
    (hfull : L.length ≠ D.now.length) (hdark : D.dark = false) :
    Calls Tryz.prog 27 #[.pointer (some ⟨bw, 0, none⟩), .string text] w fun e w' => e = .returned (.tuple #[.string r.1, .int .i64 0]) ∧
      ∃ bs' A' c', Shop B w' bw bd bp bs' (D.write L.length (pageOf L.length text)) r.2.2 (L ++ [text]) A' c' safe false ∧ Only (bw :: bd :: bp :: blocksOf (.slice A L.length c)) w w' := by
  have hn := wready_ok w bw bd bs A L.length c safe false h.wk
  have c1 : w.cell? ⟨bw, 1, none⟩ = some (.pointer (some ⟨bs, 0, none⟩)) := Blk.cell h.wk 1
  have hd := hdo w hB h.st
  obtain ⟨rep, code, S'⟩ := r
  dsimp only at hr hd ⊢
  subst hr
  clear hdo
  have H := Lib.hid h
  clear h
  go_enter Tryz.func27, Tryz.ntmps27
  go_wp2_with fail
  refine hn.mono ?_
  rintro e w' ⟨rfl, rfl⟩
  go_wp2_with fail
  refine hd.mono ?_
  rintro e w1 ⟨b', rfl, hb1, hs1, _⟩
  dsimp only at hs1
  have H1 := Lib.hid (H.out.on hb1)
  have HB1 := Lib.hid (hB.on hb1)
  have HS1 := Lib.hid (hs1 rfl)
  have k0 : w1.cell? ⟨bw, 0, none⟩ = some (.pointer (some ⟨bd, 0, none⟩)) := Blk.cell H1.out.wk 0
  have k2 : w1.cell? ⟨bw, 2, none⟩ = some (.slice A L.length c) := Blk.cell H1.out.wk 2
  have d0 : w1.cell? ⟨bd, 0, none⟩ = some (.slice (some ⟨bp, 0, none⟩) D.now.length D.now.length) := H1.out.dk.head.cell 0
  have g0 : ((L.length : Int) == D.now.length) = false := by simp; omega
  clear hs1 hd hn
  have hLn : L.length ≤ 200 := Nat.le_trans H1.out.ln H1.out.dk.hi
  have hpg := pageOf_size L.length (by omega) text ht
  have hwc : D.writeCode L.length (pageOf L.length text) = 0 := by
    have := H1.out.ln
    rw [Dk.writeCode, if_neg (by omega), Dk.code, hdark]; rfl
  have HWC := Lib.hid hwc
  have HPG := Lib.hid hpg
  have HC1 : Hid (Calls Tryz.prog 53 #[.int .i64 L.length, .string text] w1.drew fun e w2 => e = .returned (.string (pageOf L.length text)) ∧ (Below w1.heap.size w1 w2) ∧ w2.cell? ⟨bw, 0, none⟩ = some (.pointer (some ⟨bd, 0, none⟩))) :=
    (paged_any L.length (by omega) text (by omega) w1.drew (HB1.out.on (below_drew w1))).mono fun e w2 ⟨he, hb⟩ => by
      have hb' := (below_drew w1).trans hb
      exact ⟨he, hb', Blk.cell (H1.out.on hb').wk 0⟩
  have HC2 : Hid (∀ w2, Below w1.heap.size w1 w2 → Calls Tryz.prog 25 #[.pointer (some ⟨bd, 0, none⟩), .int .i64 L.length, .string (pageOf L.length text)] w2 fun e w3 => e = .returned (.int .i64 0) ∧ (Below w1.heap.size w1 w2 ∧ DiskAt w3 bd bp (D.write L.length (pageOf L.length text)) ∧ Only [bd, bp] w2 w3) ∧ w3.cell? ⟨bw, 0, none⟩ = some (.pointer (some ⟨bd, 0, none⟩))) := fun w2 hb =>
    (write_ok bd bp D L.length (pageOf L.length text) w2 (H1.out.on hb).dk (by have := HPG.out; omega)).mono fun e w3 ⟨he, hd3, hO⟩ => by
      have hne1 : bw ≠ bd := Blk.ne_ H1.out.wk H1.out.dk.head (by decide)
      have hne2 : bw ≠ bp := Blk.ne_ H1.out.wk H1.out.dk.rows (by decide)
      have hw3 := hO.blk (H1.out.on hb).wk (by simp; exact ⟨hne1, hne2⟩)
      exact ⟨by rw [he, HWC.out], ⟨hb, hd3, hO⟩, Blk.cell hw3 0⟩
  clear hwc hpg hdark
  generalize hpe : pageOf L.length text = pg at HC1 HC2 HWC HPG
  have HPE := Lib.hid hpe
  have HFull := Lib.hid hfull
  clear hpe hfull
  go_wp2_with fail
  go_region_held3 (fun w' => w'.cell? ⟨bw, 0, none⟩ = some (.pointer (some ⟨bd, 0, none⟩))) (go_keep)
    (first
      | (go_at_call 53; refine HC1.out.mono ?_; rintro e w2 ⟨rfl, hT2, k3⟩)
      | (go_at_call 25; refine (HC2.out _ (by assumption)).mono ?_; rintro e w3 ⟨rfl, hT3, k4⟩))
  obtain ⟨t1, t2, t3⟩ := hT3
  have hne1 : bw ≠ bd := Blk.ne_ H1.out.wk H1.out.dk.head (by decide)
  have hne2 : bw ≠ bp := Blk.ne_ H1.out.wk H1.out.dk.rows (by decide)
  have h2 := H1.out.on t1
  have hw3 : Blk w3 bw 65 #[.pointer (some ⟨bd, 0, none⟩), .pointer (some ⟨bs, 0, none⟩), .slice A L.length c, .int .i64 safe, .bool false] := t3.blk h2.wk (by simp; exact ⟨hne1, hne2⟩)
  have hj3 := t3.own h2.jr (fun g hg => by
    have n1 := own_ne h2.jr h2.dk.head (by decide)
    have n2 := own_ne h2.jr h2.dk.rows (by decide)
    simp
    exact ⟨fun e => n1 (e ▸ hg), fun e => n2 (e ▸ hg)⟩)
  have m1 : w3.cell? ⟨bw, 1, none⟩ = some (.pointer (some ⟨bs, 0, none⟩)) := hw3.cell 1
  have m2 : w3.cell? ⟨bw, 2, none⟩ = some (.slice A L.length c) := hw3.cell 2
  have f1 := hw3.frozen 1
  have f2 := hw3.frozen 2
  have HW3 := Lib.hid hw3
  have HJ3 := Lib.hid hj3
  have HD3 := Lib.hid t2
  have HO3 := Lib.hid t3
  have HT1 := Lib.hid t1
  have hn3 := own_ne hj3 hw3 (by decide)
  have hO4 : Only [bw] w3 (w3.setCell ⟨bw, 1, none⟩ (.pointer (some ⟨b', 0, none⟩))) := (Only.refl _ _).set_ (by simp) _
  have hj4 := hO4.own hj3 (fun g hg => by simp; exact fun e => hn3 (e ▸ hg))
  have hw4 : Blk (w3.setCell ⟨bw, 1, none⟩ (.pointer (some ⟨b', 0, none⟩))) bw 65 #[.pointer (some ⟨bd, 0, none⟩), .pointer (some ⟨b', 0, none⟩), .slice A L.length c, .int .i64 safe, .bool false] := hw3.set_ 1 _
  have HW4 := Lib.hid hw4
  have HO4 := Lib.hid hO4
  have HBS := Lib.hid (show B ≤ w3.heap.size from Nat.le_trans HB1.out.le (Nat.le_trans HT1.out.size HO3.out.size))
  clear hw3 hj3 t2 t3 h2 t1 hT2 k3 k4 k0 k2 d0 HC1 HC2 hn3 hO4 hw4
  obtain ⟨i0, hi, hz0, hz1, hz2⟩ := info_parts infoString
  go_wp2_with (at_builtin; go_must (refine wpList_push rfl _ _ 22 rfl B 9 i0 (.string ⟨#[]⟩) 1 16 Tryz.underlying22 hi hz0 hz1 hz2 rfl (by decide) _ _ _ rfl hj4 #[.string text] w3.heap.size (by simp) rfl rfl ?d1 ?d2 ?d3 ?d4 ?_))
  all_goals (try first | exact rfl | omega | (have := HBS.out; simp; omega))
  intro v' w5 hown5 hO5 _ hbl5
  obtain ⟨A5, c5, rfl⟩ := own_slice hown5
  have hn4 := own_ne hj4 HW4.out (by decide)
  have hw5 := hO5.blk HW4.out hn4
  have q2 : w5.cell? ⟨bw, 2, none⟩ = some (.slice A L.length c) := hw5.cell 2
  have p2 := hw5.frozen 2
  have HW5 := Lib.hid hw5
  have HO5 := Lib.hid hO5
  have HOW := Lib.hid hown5
  clear hw5 hO5 hown5 m1 m2 f1 f2
  go_wp2_with fail
  go_ret2
  have hfin : Only (bw :: bd :: bp :: blocksOf (.slice A L.length c)) w1 (w5.setCell ⟨bw, 2, none⟩ (.slice A5 (L.length + 1) c5)) :=
    ((((Only.of_below HT1.out).trans (HO3.out.mono (by intro k hk; simp at hk ⊢; rcases hk with h | h <;> simp [h]))).trans (HO4.out.mono (by simp))).trans (HO5.out.mono (by intro k hk; simp [hk]))).set_ (by simp) _
  have hfar : Far w1 (bw :: bd :: bp :: blocksOf (.slice A L.length c)) := fun g hg => by
    simp only [List.mem_cons] at hg
    rcases hg with rfl | rfl | rfl | hg
    · exact ⟨_, _, H1.out.wk, by simp⟩
    · exact ⟨_, _, H1.out.dk.head, by simp⟩
    · exact ⟨_, _, H1.out.dk.rows, by simp⟩
    · obtain ⟨cs, hb⟩ := own_blk H1.out.jr hg
      exact ⟨_, cs, hb, by simp⟩
  have hO46 : Only (bw :: blocksOf (.slice A L.length c)) w3 (w5.setCell ⟨bw, 2, none⟩ (.slice A5 (L.length + 1) c5)) :=
    ((HO4.out.mono (by simp)).trans (HO5.out.mono (by intro k hk; simp [hk]))).set_ (by simp) _
  refine ⟨rfl, b', A5, c5, ⟨?_, ?_, ?_, ?_, H.out.b1, H.out.b2, H.out.b3, ?_⟩, ?_⟩
  · have := HW5.out.set_ 2 (.slice A5 (L.length + 1) c5)
    rw [List.length_append, List.length_singleton]
    exact this
  · rw [HPE.out]
    have n1 : bd ∉ (bw :: blocksOf (.slice A L.length c)) := by
      simp only [List.mem_cons, not_or]
      exact ⟨fun e => hne1 e.symm, own_ne HJ3.out HD3.out.head (by decide)⟩
    have n2 : bp ∉ (bw :: blocksOf (.slice A L.length c)) := by
      simp only [List.mem_cons, not_or]
      exact ⟨fun e => hne2 e.symm, own_ne HJ3.out HD3.out.rows (by decide)⟩
    exact ⟨hO46.blk HD3.out.head n1, hO46.blk HD3.out.rows n2, HD3.out.len, HD3.out.lo, HD3.out.hi, HD3.out.flo, HD3.out.fhi⟩
  · exact (HS1.out.only hfin hfar).mono (Nat.zero_le _)
  · have := ((Only.refl [bw] w5).set_ (p := ⟨bw, 2, none⟩) (by simp) (.slice A5 (L.length + 1) c5)).own HOW.out (fun g hg => by
      have := own_ne HOW.out HW5.out (by decide)
      simp
      exact fun e => this (e ▸ hg))
    rw [List.length_append, List.length_singleton, List.map_append]
    exact this
  · have h1 := H.out.ln
    have h2 := HFull.out
    have h3 : (D.write L.length (pageOf L.length text)).now.length = D.now.length := by
      unfold Dk.write
      split
      · rfl
      · split <;> simp [Dk.spent]
    rw [h3, List.length_append, List.length_singleton]
    omega
  · exact (Only.of_below hb1).trans hfin
end Go.Proofs.YtkfdcccgpphcmaaGreatDoor
