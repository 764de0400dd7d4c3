/-
WorksDisks: for every number of pages and every list of acts the statement returns true, and its arguments read behind the call as before it (after any calls a disk has the documented pages, and every call returned the documented result). It is the tied card: the listed variables of the library hold what the library's text lays. No other condition.
-/
import Derived.Test.YtkfdcccgpphcmaaGreatDoorKeep
import Derived.Test.YtkfdcccgpphcmaaGreatDoorDisksFacts
namespace Go.Proofs.YtkfdcccgpphcmaaGreatDoor
open Go.ChangeShapes Go.WideShapes Go.ChangeAt Go.RowKit Go.Shelf

theorem acts_of {H : Type} {enc : TypeId × Value → H} {W : World} {fuel : Nat} {v : Value} {y : DataW H × List MemPlace} (h : DataW.trod enc Tryz.prog W 0 (fun _ => true) true fuel 37 [v] = some y) :
    (∃ A c, v = .slice A 0 c) ∨ ∃ b o n c l, v = .slice (some ⟨b, o, none⟩) n c ∧ n ≤ c ∧ c ≤ maxLen ∧ ActsIn W b o n l := by
  rcases open_slice_fields (e := 43) Tryz.underlying37 Tryz.underlying43 (by kernel_rfl) (by kernel_rfl) h with ⟨hcs, _⟩ | ⟨a, len, cap, m, D, Pl, hcs, _, hl, hm, hmm, _, hi⟩
  · simp at hcs
    exact .inl ⟨_, _, hcs⟩
  · simp at hcs
    subst hcs
    simp only [if_true] at hmm
    subst hmm
    rcases Nat.eq_zero_or_pos len with h0 | h0
    · subst h0
      exact .inl ⟨_, _, rfl⟩
    right
    have hsize : ∀ i j, a.add (i * 4 + j) = (a.add (i * 4)).add j := fun i j => (Go.Deep.add_add _ _ _).symm
    obtain ⟨b, o, rfl⟩ : ∃ b o, a = ⟨b, o, none⟩ := by
      obtain ⟨ys, n, _, _, _, hf⟩ := hi 0 (by omega)
      obtain ⟨v, y, hc, _, _⟩ := hf 0 _ rfl
      exact spot_none (by simpa [Addr.add] using hc)
    have hadd : ∀ n, (⟨b, o, none⟩ : Addr).add n = ⟨b, o + n, none⟩ := fun n => by unfold Addr.add; split <;> simp_all
    have key : ∀ i, ∃ x : OneAct, i < m → (x.s.size ≤ 9223372036854775807 ∧ x.n ≤ 9223372036854775807 ∧ -9223372036854775808 ≤ x.n ∧
        W.cell? ⟨b, o + i * 4, none⟩ = some (.int .i64 x.kind) ∧ W.cell? ⟨b, o + i * 4 + 1, none⟩ = some (.int .i64 x.n) ∧ W.cell? ⟨b, o + i * 4 + 2, none⟩ = some (.string x.s) ∧ W.cell? ⟨b, o + i * 4 + 3, none⟩ = some x.kv ∧ KeepIn W x.kv x.K) := by
      intro i
      by_cases hic : i < m
      · obtain ⟨ys, n, _, _, _, hf⟩ := hi i hic
        obtain ⟨v0, y0, c0, _, h0⟩ := hf 0 _ rfl
        obtain ⟨v1, y1, c1, _, h1⟩ := hf 1 _ rfl
        obtain ⟨v2, y2, c2, _, h2⟩ := hf 2 _ rfl
        obtain ⟨v3, y3, c3, _, h3⟩ := hf 3 _ rfl
        obtain ⟨n0, e0, _, _⟩ := DataW.trod_int Tryz.underlying3 h0
        obtain ⟨n1, e1, _, w1⟩ := DataW.trod_int Tryz.underlying3 h1
        obtain ⟨s2, e2, _, w2⟩ := DataW.trod_string Tryz.underlying9 h2
        obtain ⟨A, kn, kc, K, rfl, hk⟩ := keep_of h3
        simp only [List.cons.injEq, and_true] at e0 e1 e2
        subst e0 e1 e2
        have := bounds_i64 w1
        refine ⟨⟨n0, n1, s2, A, kn, kc, K⟩, fun _ => ?_⟩
        rw [hadd] at c0 c1 c2 c3
        refine ⟨by unfold maxLen at w2; dsimp only; omega, by dsimp only; omega, by dsimp only; omega, by simpa using c0, by rw [← Nat.add_assoc] at c1; exact c1, by rw [← Nat.add_assoc] at c2; exact c2, by rw [← Nat.add_assoc] at c3; exact c3, hk⟩
      · exact ⟨⟨0, 0, ⟨#[]⟩, none, 0, 0, []⟩, fun h => absurd h hic⟩
    refine ⟨b, o, len, m, fun i => (key i).choose, rfl, hl, hm, fun i hil => ?_⟩
    obtain ⟨q1, q2, q3, c0, c1, c2, c3, hk⟩ := (key i).choose_spec (by omega)
    refine ⟨q1, q2, q3, fun W' hb => ?_⟩
    have hlt : b < W.heap.size := Lib.lt_of_cell c0
    refine ⟨by rw [hb.cell (p := ⟨b, _, none⟩) hlt, c0], by rw [hb.cell (p := ⟨b, _, none⟩) hlt, c1], by rw [hb.cell (p := ⟨b, _, none⟩) hlt, c2], by rw [hb.cell (p := ⟨b, _, none⟩) hlt, c3], hk W' hb⟩


theorem disks_law (W : World) (hl : laidMetH Tryz.prog laidList W) (hs : W.ShapedOpen Tryz.prog) (p : Int) (v : Value) (hv : (∃ A c, v = .slice A 0 c) ∨ ∃ b o n c l, v = .slice (some ⟨b, o, none⟩) n c ∧ n ≤ c ∧ c ≤ maxLen ∧ ActsIn W b o n l) :
    Calls Tryz.prog 4 #[.int .i64 p, v] W fun e w' => e = .returned (.bool true) ∧ Below W.heap.size W w' := by
  have hB := base_of hl hs
  have hA : AwakeIn W := fun W' hb => awake_ok W' (hB.below hb)
  by_cases h1 : 1 ≤ p
  · by_cases h2 : p ≤ 200
    · obtain ⟨k, rfl⟩ : ∃ k : Nat, p = k := ⟨p.toNat, by omega⟩
      rcases hv with ⟨A, c, rfl⟩ | ⟨b, o, n, c, l, rfl, hn, hc, hL⟩
      · exact run_zero W k (by omega) (by omega) A c hA
      · unfold maxLen at hc
        exact run_some W k (by omega) (by omega) b o n c l (by omega) hn (by omega) hL hA
    · exact run_bad W p v (by omega) hA
  · exact run_bad W p v (by omega) hA

set_option maxRecDepth 100000 in
theorem lifted (os : Os) (started : os.Started) (H : Type) (enc : TypeId × Value → H) :
    ReturnsInHanded {} Tryz.checked os 4 .any (fun w args => (Rows.worksDisksSpec.pre enc Tryz.prog Tryz.f4 Rows.worksDisksRow.domain false w args ∧ laidMetH Tryz.prog Rows.worksDisksRow.laid w) ∧ sizedMet enc Tryz.prog Tryz.f4 (OpenSpec.ofChange Rows.worksDisksSpec) false w args)
      (Rows.worksDisksSpec.post enc Tryz.prog Tryz.f4 false true false false) := by
  refine wrap (C := Tryz.checked) (X := fun w _ => laidMetH Tryz.prog Rows.worksDisksRow.laid w) (fun _ _ _ hh h => h.of_heap hh) own started (by kernel_rfl) Tryz.func4
    (ChangeSpec.witness_shaped (enc := enc) (C := Tryz.checked) (os := os) (X := fun w _ => laidMetH Tryz.prog Rows.worksDisksRow.laid w) false (World.laidAll Tryz.prog os Rows.worksDisksRow.laid) #[.int .i64 0, .slice none 0 0] 8 (World.laidAll_os _ _ _)
      (World.shaped_of_ZipB (by kernel_rfl) (by kernel_rfl)) (by kernel_rfl) (by kernel_rfl) (by kernel_rfl)
      (by rw [MakeChecks.laidMetH_plain _ _ _ (by kernel_rfl)]; exact laidMet_laidAll _ (by kernel_rfl) (by kernel_rfl))) ?_
  intro W base args ds gs before hval0 hW _ _ hx hsh _
  have hval : ∀ (j : Nat) t v, Tryz.f4.params[j]? = some t → args[j]? = some v → Value.okWide Tryz.prog W .any base t v := hval0
  have hW' := hW
  obtain ⟨p, q, hA0, hV, rfl, _, _⟩ := hW
  have hA : DataW.TrodAll enc Tryz.prog W 0 (fun _ => true) true Tryz.f4.params.toList args.toList ds p := hA0
  rw [Tryz.params4] at hA hval
  obtain ⟨v0, v1, d0, d1, p0, p1, rfl, rfl, rfl, h0, h1⟩ := trodAll_two hA
  obtain ⟨rfl, rfl⟩ := trodVars_none hV
  obtain ⟨n, rfl, rfl, rfl, wn⟩ := open_int Tryz.underlying3 (hval 0 3 v0 rfl rfl) h0
  have h1k := h1
  obtain ⟨fuel, hf⟩ := h1
  clear hA0 hval0
  simp only [List.append_nil, List.nil_append] at hW'
  have hlt : ∀ x ∈ p1, x.block < W.heap.size := fun x hx => by
    have := hW'.lt x (by simp [hx])
    simpa using this
  obtain ⟨a0, len, cap, rfl⟩ := okWide_slice Tryz.underlying37 (hval 1 37 v1 rfl rfl)
  refine (disks_law W hx hsh n _ (acts_of hf)).mono fun e W' ⟨he, hB⟩ => ?_
  subst he
  have hback := trodAll_mk2 (shut_int (enc := enc) (w := W') (base := 0) (spare := fun b => decide (b < W.heap.size)) (held := true) Tryz.underlying3 wn) (Below.trod laidOut (by kernel_rfl) (of_decide_eq_true (by kernel_rfl)) h1k hB hlt)
  exact ⟨_, rfl, _, _, _, [], _, [], hW', trodAll_mk1 (shut_bool Tryz.underlying4 _), hback, rfl, hB.frame _, fun h => by cases h⟩

theorem said : Rows.WorksDisksSaid :=
  OpenClaim.holds_of_wide 4 Tryz.f4 rfl rfl rfl rfl rfl rfl rfl ⟨rfl, rfl, rfl, rfl, rfl⟩ rfl rfl rfl rfl rfl (by kernel_rfl) Tryz.func4 FactsworksDisks.closed
    (of_decide_eq_true (by kernel_rfl)) (by unfold Func.isWrapper; first | (rw [if_pos (by decide +kernel)]; kernel_rfl) | (rw [if_neg (by decide +kernel)]; exact ⟨rfl, rfl⟩))
    (fun os started H enc _ => lifted os started H enc)

/-- No parameter wants a stand-in. -/
theorem plain (f : FuncId) (fn : Func) (hf : Tryz.pinned.checked.prog.funcNamed "gherkin/gherkinlaw10.WorksDisks" = some f) (hfn : Tryz.pinned.checked.prog.funcs[f]? = some fn) :
    true = Tryz.pinned.checked.prog.looks [] ∧ ∀ (j : Nat) t, fn.params[j]? = some t → Tryz.pinned.checked.prog.wantsStandIn t = false := by
  obtain rfl : f = 4 := Option.some.inj ((show Tryz.prog.funcNamed "gherkin/gherkinlaw10.WorksDisks" = some 4 by kernel_rfl).symm.trans hf) |>.symm
  obtain rfl : fn = Tryz.f4 := (Option.some.inj (Tryz.func4.symm.trans hfn)).symm
  refine ⟨by kernel_rfl, fun j t ht => ?_⟩
  rw [Tryz.params4] at ht
  have := Array.mem_of_getElem? ht
  simp at this
  rcases this with rfl | rfl
  · exact (show Tryz.prog.wantsStandIn 3 = false by kernel_rfl)
  · exact (show Tryz.prog.wantsStandIn 37 = false by kernel_rfl)

theorem worksDisks_holds : Rows.WorksDisksCardSaid :=
  Claim7.holds_tied_plain_at .later [] _ _ _ _ said (fun _ h => by cases h) (by kernel_rfl) (fun _ h => by cases h) worksDisks_row_tie rfl ⟨rfl, rfl⟩ (by kernel_rfl) rfl plain (by kernel_rfl)
end Go.Proofs.YtkfdcccgpphcmaaGreatDoor
