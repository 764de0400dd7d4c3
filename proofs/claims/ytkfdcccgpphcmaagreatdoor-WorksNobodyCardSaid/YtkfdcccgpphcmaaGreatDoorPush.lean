/- One element appended to a row of the call's own. -/
import Derived.Test.YtkfdcccgpphcmaaGreatDoorDisk
import Derived.Maps.AppendAt
namespace Go.Proofs.YtkfdcccgpphcmaaGreatDoor
open Go.RowKit

/-- The blocks of a slice. -/
def blocksOf (v : Value) : List Nat := match v.ownBlock with
  | some g => [g]
  | none => []
theorem Only.of_own {v : Value} {w w' : World} (h : w.grownBy w' v.ownBlock) : Only (blocksOf v) w w' :=
  ⟨h.os, h.tape, h.output, h.size, fun k hk hm => h.block k hk (fun e => by
    unfold blocksOf at hm
    rw [← e] at hm
    exact hm (List.mem_singleton.2 rfl))⟩
theorem mem_blocksOf {v : Value} {g : Nat} : g ∈ blocksOf v ↔ v.ownBlock = some g := by
  unfold blocksOf
  cases h : v.ownBlock with
  | none => simp
  | some k => simp [eq_comm]
theorem own_ge {w : World} {base : Nat} {e : TypeId} {size n : Nat} {v : Value} {xs : List Value} (h : w.ownsRow base e size v n xs) {g : Nat} (hg : g ∈ blocksOf v) : base ≤ g ∧ g < w.heap.size := h.lt g (mem_blocksOf.1 hg)
theorem Only.own {M : List Nat} {w w' : World} (h : Only M w w') {base : Nat} {e : TypeId} {size n : Nat} {v : Value} {xs : List Value} (ho : w.ownsRow base e size v n xs) (hm : ∀ g, g ∈ blocksOf v → g ∉ M) : w'.ownsRow base e size v n xs := by
  refine ⟨ho.1, ?_⟩
  rcases ho.2 with h0 | ⟨g, cap, cur, rfl, hb, hh, h1, h2, h3, h4⟩
  · exact .inl h0
  · exact .inr ⟨g, cap, cur, rfl, hb, (h.block g (Blk.lt (cs := cur) hh) (hm g (by simp [blocksOf, Value.ownBlock]))).trans hh, h1, h2, h3, h4⟩
theorem own_ne {w : World} {base : Nat} {e : TypeId} {size n : Nat} {v : Value} {xs : List Value} (h : w.ownsRow base e size v n xs) {g : Nat} {t : TypeId} {cs : Array Value} (hg : Blk w g t cs) (hne : e ≠ t) : g ∉ blocksOf v := fun hm => by
  rcases h.2 with ⟨rfl, _⟩ | ⟨g', cap, cur, rfl, _, hh, _⟩
  · simp [blocksOf, Value.ownBlock] at hm
  · have hm := mem_blocksOf.1 hm
    have e' : g' = g := by simpa [Value.ownBlock] using hm
    subst e'
    exact Blk.ne_ (t := e) hh hg hne rfl
theorem own_own_ne {w : World} {base base' : Nat} {e e' : TypeId} {size size' n n' : Nat} {v v' : Value} {xs xs' : List Value} (h : w.ownsRow base e size v n xs) (h' : w.ownsRow base' e' size' v' n' xs') (hne : e ≠ e') : ∀ g, g ∈ blocksOf v → g ∉ blocksOf v' := fun g hg => by
  rcases h.2 with ⟨rfl, _⟩ | ⟨g', cap, cur, rfl, _, hh, _⟩
  · simp [blocksOf, Value.ownBlock] at hg
  · have e0 : g' = g := by simpa [Value.ownBlock] using mem_blocksOf.1 hg
    subst e0
    exact own_ne h' (t := e) hh (fun x => hne x.symm)

theorem own_mono {w : World} {base base' : Nat} {e : TypeId} {size n : Nat} {v : Value} {xs : List Value} (h : w.ownsRow base e size v n xs) (hb : base' ≤ base) : w.ownsRow base' e size v n xs := by
  refine ⟨h.1, ?_⟩
  rcases h.2 with h0 | ⟨g, cap, cur, h0, hg, hr⟩
  · exact .inl h0
  · exact .inr ⟨g, cap, cur, h0, Nat.le_trans hb hg, hr⟩
theorem own_slice {w : World} {base : Nat} {e : TypeId} {size n : Nat} {v : Value} {xs : List Value} (h : w.ownsRow base e size v n xs) : ∃ A c, v = .slice A n c := by
  rcases h.2 with ⟨rfl, rfl⟩ | ⟨g, cap, cur, rfl, _⟩
  · exact ⟨_, _, rfl⟩
  · exact ⟨_, _, rfl⟩

theorem wpList_push {P : Program} {w : World} {ops : Array Oper} {rest : List Oper} {o : Oper} {a : Act} {Q : Exit → Act → World → Prop} (hgd : o.guard = none) (s x : Operand) (t : TypeId)
    (ho : o.op = .call { callee := .builtin .append, args := #[s, x], argTypes := #[t, t] })
    (base : Nat) (e : TypeId) (i : TypeInfo) (z : Value) (size bytes : Nat) (ht : P.underlying t = some (.slice e)) (hi : P.info? e = some i) (hz : i.zero = some z)
    (hsize : i.size = size) (hby : i.bytes = bytes) (hzs : z.cells.size = size) (hsz : 0 < size)
    (v : Value) (n : Nat) (xs : List Value) (hs : a.eval s = v) (hown : w.ownsRow base e size v n xs) (cs : Array Value) (bn : Nat) (hbn : w.heap.size = bn)
    (hx : a.eval x = .slice (some ⟨bn, 0, none⟩) 1 1) (hl : cs.size = size) (h1 : ∀ u ∈ cs.toList, u.oneCell' = true)
    (hn : n ≤ 1000000) (hbytes : bytes ≤ 1000) (hbase : base ≤ w.heap.size)
    (h : ∀ v' w', w'.ownsRow base e size v' (n + 1) (xs ++ cs.toList) → Only (blocksOf v) w w' → (v' = .slice none 0 0 → False) → (∀ g, g ∈ blocksOf v' → g ∈ blocksOf v ∨ w.heap.size ≤ g) → wpList P ops Q rest (a.put o.dst v') w') :
    wpList P ops Q (o :: rest) a (w.alloc (.cells cs e)) := by
  subst hbn
  have hb := Blk.new w e cs
  refine wpList_append_own_at (w.alloc (.cells cs e)) hgd s x t ho base e i z size bytes ht hi hz hsize hby hzs hsz v n xs hs (hown.alloc _) ⟨w.heap.size, 0, none⟩ 1 1 cs.toList hx (by simpa using hl) (fun j u hj => ?_) h1 (by unfold maxLen; omega) ?_ (by simp; omega) (fun v' w' h2 h3 h4 h5 => h v' w' h2 ?_ (fun e => by have := (h4.1 e).2; omega) ?_)
  · have e0 : (⟨w.heap.size, 0, none⟩ : Addr).add j = ⟨w.heap.size, j, none⟩ := by unfold Addr.add; split <;> simp_all
    rw [e0, hb.cell j, ← hj]
    simp
  · exact Nat.le_trans (Nat.mul_le_mul (show n + 1 ≤ 1000001 by omega) hbytes) (by decide)
  · exact ((Only.refl _ w).alloc _).trans (Only.of_own h3)
  · intro g hg
    rw [mem_blocksOf] at hg
    rcases h5 with e | e
    · rw [e] at hg
      exact .inl (mem_blocksOf.2 hg)
    · rw [e] at hg
      injection hg with hg
      subst hg
      right
      simp

/-- One element appended inside a region that draws its order: the element lies in block bn. -/
theorem step_push {P : Program} {w : World} {ops : Array Oper} {o : Oper} {a : Act} {K : Act → World → Prop} {Q : Exit → Act → World → Prop} {E : Prop} (hgd : o.guard = none) (s x : Operand) (t : TypeId)
    (ho : o.op = .call { callee := .builtin .append, args := #[s, x], argTypes := #[t, t] })
    (base : Nat) (e : TypeId) (i : TypeInfo) (z : Value) (size bytes : Nat) (ht : P.underlying t = some (.slice e)) (hi : P.info? e = some i) (hz : i.zero = some z)
    (hsize : i.size = size) (hby : i.bytes = bytes) (hzs : z.cells.size = size) (hsz : 0 < size)
    (v : Value) (n : Nat) (xs : List Value) (cs : Array Value) (bn : Nat) (hs : a.eval s = v)
    (hx : a.eval x = .slice (some ⟨bn, 0, none⟩) 1 1) (hl : cs.size = size) (h1 : ∀ u ∈ cs.toList, u.oneCell' = true)
    (hn : n ≤ 1000000) (hbytes : bytes ≤ 1000) (hown : w.ownsRow base e size v n xs) (hb : Blk w bn e cs) (hbase : base ≤ w.heap.size)
    (h : ∀ v' w', w'.ownsRow base e size v' (n + 1) (xs ++ cs.toList) → Only (blocksOf v) w w' → (v' = .slice none 0 0 → False) → (∀ g, g ∈ blocksOf v' → g ∈ blocksOf v ∨ w.heap.size ≤ g) → K (a.put o.dst v') w') :
    if Region.wanted o (yielded ops a.tmps) = true then Oper.wp P o a w K Q else E := by
  have hw : Region.wanted o (yielded ops a.tmps) = true := by simp [Region.wanted, hgd]
  rw [if_pos hw]
  have hnews : ∀ j u, cs.toList[j]? = some u → w.cell? ((⟨bn, 0, none⟩ : Addr).add j) = some u := fun j u hj => by
    have e0 : (⟨bn, 0, none⟩ : Addr).add j = ⟨bn, j, none⟩ := by unfold Addr.add; split <;> simp_all
    rw [e0, hb.cell j, ← hj]
    simp
  obtain ⟨v', w', hrun, h2, h3, h4, h5⟩ := run_append_own_at (P := P) w base t o.type e i z size bytes ht hi hz hsize hby hzs hsz v n xs hown ⟨bn, 0, none⟩ 1 1 cs.toList (by simpa using hl) hnews h1 (by unfold maxLen; omega) (Nat.le_trans (Nat.mul_le_mul (show n + 1 ≤ 1000001 by omega) hbytes) (by decide)) hbase
  unfold Oper.wp execOp
  simp only [ho, resolve, invoke, builtin, Sem.run_bind, Sem.run_pure, Result.andThen_ok, List.map_toArray, List.map_cons, List.map_nil, hs, hx, hrun]
  refine h v' w' h2 (Only.of_own h3) (fun e => by have := (h4.1 e).2; omega) (fun g hg => ?_)
  rw [mem_blocksOf] at hg
  rcases h5 with e | e
  · rw [e] at hg
    exact .inl (mem_blocksOf.2 hg)
  · rw [e] at hg
    injection hg with hg
    subst hg
    exact .inr (Nat.le_refl _)
end Go.Proofs.YtkfdcccgpphcmaaGreatDoor
