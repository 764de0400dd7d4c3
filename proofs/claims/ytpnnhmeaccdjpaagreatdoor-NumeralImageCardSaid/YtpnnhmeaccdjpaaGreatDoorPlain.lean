/- Plain facts on the golden word and on golden numerals: no Go in it. -/
namespace Go.Proofs.Img
/-- The golden words: each is the one before it and the one before that. -/
def gw : Nat → List UInt8
  | 0 => [48]
  | 1 => [48, 49]
  | k + 2 => gw (k + 1) ++ gw k
/-- The word that is long enough for all. -/
def G : List UInt8 := gw 16
def phi (l : List UInt8) : List UInt8 := l.flatMap fun c => if c = 48 then [48, 49] else if c = 49 then [48] else [c]
theorem gw_pre (k : Nat) : gw k <+: gw (k + 1) := by
  match k with
  | 0 => exact ⟨[49], rfl⟩
  | k + 1 => exact ⟨gw k, rfl⟩
theorem gw_pre_le {j k : Nat} (h : j ≤ k) : gw j <+: gw k := by
  induction h with
  | refl => exact List.prefix_refl _
  | step _ ih => exact ih.trans (gw_pre _)
theorem phi_append (a b : List UInt8) : phi (a ++ b) = phi a ++ phi b := by simp [phi]
theorem phi_gw (k : Nat) : phi (gw k) = gw (k + 1) := by
  match k with
  | 0 => rfl
  | 1 => rfl
  | k + 2 => show phi (gw (k + 1) ++ gw k) = _; rw [phi_append, phi_gw (k + 1), phi_gw k]; rfl
def gl : Nat → Nat
  | 0 => 1
  | 1 => 2
  | k + 2 => gl (k + 1) + gl k
theorem gw_len : ∀ k, (gw k).length = gl k
  | 0 => rfl
  | 1 => rfl
  | k + 2 => by show (gw (k + 1) ++ gw k).length = _; rw [List.length_append, gw_len (k + 1), gw_len k]; rfl
theorem G_len : G.length = 2584 := by unfold G; rw [gw_len]; decide
/-- A golden word that is long enough begins as G does. -/
theorem take_gw {k n : Nat} (hk : k ≤ 16) (hn : n ≤ (gw k).length) : (gw k).take n = G.take n := by
  obtain ⟨r, hr⟩ := gw_pre_le hk
  unfold G
  rw [← hr, List.take_append_of_le_length hn]
theorem len_mono {j k : Nat} (h : j ≤ k) : (gw j).length ≤ (gw k).length := (gw_pre_le h).length_le
/-- Words that are too short for n ≤ 2000 have small numbers. -/
theorem small {k n : Nat} (hn : n ≤ 2000) (h : (gw k).length < n) : k < 16 := by
  apply Nat.lt_of_not_le
  intro hk
  have := len_mono hk
  have h2 : (gw 16).length = 2584 := G_len
  omega
theorem phi_prefix {a b : List UInt8} (h : a <+: b) : phi a <+: phi b := by
  obtain ⟨r, rfl⟩ := h
  exact ⟨phi r, (phi_append _ _).symm⟩
/-- The image of a beginning of the golden word begins it. -/
theorem image_take {n m : Nat} (hm : m ≤ 2000) (hl : m ≤ (phi (G.take n)).length) : (phi (G.take n)).take m = G.take m := by
  have h1 : phi (G.take n) <+: gw 17 := by rw [← phi_gw 16]; exact phi_prefix (List.take_prefix _ _)
  have h2 : G <+: gw 17 := gw_pre 16
  obtain ⟨r, hr⟩ := h1
  obtain ⟨q, hq⟩ := h2
  have e1 : (gw 17).take m = (phi (G.take n)).take m := by rw [← hr, List.take_append_of_le_length hl]
  have e2 : (gw 17).take m = G.take m := by rw [← hq, List.take_append_of_le_length (by rw [G_len]; omega)]
  rw [← e1, e2]
theorem gw_bits : ∀ k, ∀ c ∈ gw k, c = 48 ∨ c = 49
  | 0 => by simp [gw]
  | 1 => by simp [gw]
  | k + 2 => by
    intro c hc
    rcases List.mem_append.1 (show c ∈ gw (k + 1) ++ gw k from hc) with h | h
    · exact gw_bits (k + 1) c h
    · exact gw_bits k c h
/-- The parts of length k among the first i. -/
def win (i k : Nat) : List UInt8 := ((G.take 400).drop i).take k
def add (l : List (List UInt8)) (x : List UInt8) : List (List UInt8) := if l.contains x then l else l ++ [x]
def parts (k : Nat) : Nat → List (List UInt8)
  | 0 => []
  | i + 1 => add (parts k i) (win i k)
theorem phi_cons (c : UInt8) (l : List UInt8) : phi (c :: l) = (if c = 48 then [48, 49] else if c = 49 then [48] else [c]) ++ phi l := rfl
theorem phi_len (l : List UInt8) (h : ∀ c ∈ l, c = 48 ∨ c = 49) : (phi l).length = l.length + l.count 48 := by
  induction l with
  | nil => rfl
  | cons c l ih =>
    have ih := ih fun x hx => h x (List.mem_cons_of_mem _ hx)
    rw [phi_cons, List.length_append, ih]
    rcases h c (List.mem_cons_self ..) with rfl | rfl
    · simp; omega
    · simp; omega
theorem counts (l : List UInt8) (h : ∀ c ∈ l, c = 48 ∨ c = 49) : l.count 48 + l.count 49 = l.length := by
  induction l with
  | nil => rfl
  | cons c l ih =>
    have ih := ih fun x hx => h x (List.mem_cons_of_mem _ hx)
    rcases h c (List.mem_cons_self ..) with rfl | rfl <;> simp <;> omega
theorem phi_nil : phi [] = [] := rfl
theorem phi_snoc (l : List UInt8) (c : UInt8) : phi (l ++ [c]) = phi l ++ (if c = 48 then [48, 49] else if c = 49 then [48] else [c]) := by
  rw [phi_append]; simp [phi]
theorem count_snoc (l : List UInt8) (c d : UInt8) : (l ++ [c]).count d = l.count d + if c = d then 1 else 0 := by
  rw [List.count_append]; simp [List.count_cons]
theorem count_hit (l : List UInt8) (k : Nat) (h : k < l.length) (hc : l[k] = 48) : (l.take (k + 1)).count 48 = (l.take k).count 48 + 1 := by
  rw [List.take_succ_eq_append_getElem h, count_snoc, if_pos hc]
theorem count_miss (l : List UInt8) (k : Nat) (h : k < l.length) (hc : ¬ l[k] = 48) : (l.take (k + 1)).count 48 = (l.take k).count 48 := by
  rw [List.take_succ_eq_append_getElem h, count_snoc, if_neg hc]; rfl
theorem phi_48 (l : List UInt8) (k : Nat) (h : k < l.length) (hc : l[k] = 48) : phi (l.take (k + 1)) = phi (l.take k) ++ [48, 49] := by
  rw [List.take_succ_eq_append_getElem h, phi_snoc, hc]; rfl
theorem phi_49 (l : List UInt8) (k : Nat) (h : k < l.length) (hc : l[k] = 49) : phi (l.take (k + 1)) = phi (l.take k) ++ [48] := by
  rw [List.take_succ_eq_append_getElem h, phi_snoc, hc]; rfl
theorem phi_take_le (l : List UInt8) (k : Nat) : (phi (l.take k)).length ≤ (phi l).length := by
  have h := phi_prefix (List.take_prefix k l)
  exact h.length_le
theorem bit_at (l : List UInt8) (h : ∀ c ∈ l, c = 48 ∨ c = 49) (k : Nat) (hk : k < l.length) : l[k] = 48 ∨ (l[k] = 49 ∧ ¬ l[k] = 48) := by
  rcases h _ (List.getElem_mem hk) with e | e
  · exact .inl e
  · exact .inr ⟨e, by rw [e]; decide⟩
theorem parts_count : (List.range 12).all (fun k => (parts k (401 - k)).length == k + 1) = true := by decide +kernel
theorem parts_len (k : Nat) (h : k < 12) : (parts k (401 - k)).length = k + 1 := by
  have := List.all_eq_true.1 parts_count k (List.mem_range.2 h)
  simpa using this
theorem parts_le (k i : Nat) : (parts k i).length ≤ i := by
  induction i with
  | zero => simp [parts]
  | succ i ih =>
    unfold parts add
    split
    · omega
    · simp; omega
end Go.Proofs.Img
namespace Go.Proofs.Fibo
/-- Fibonacci's numbers, two neighbours at a time. -/
def pair : Nat → Nat × Nat
  | 0 => (0, 1)
  | k + 1 => ((pair k).2, (pair k).1 + (pair k).2)
def fib (k : Nat) : Nat := (pair k).1
theorem pair_snd (k : Nat) : (pair k).2 = fib (k + 1) := rfl
theorem fib_step (k : Nat) : fib (k + 2) = fib k + fib (k + 1) := rfl
theorem fib_mono_step (k : Nat) : fib (k + 1) ≤ fib (k + 2) := by rw [fib_step]; omega
theorem fib_mono {j k : Nat} (h : j ≤ k) (hj : 1 ≤ j) : fib j ≤ fib k := by
  induction h with
  | refl => exact Nat.le_refl _
  | @step m hm ih =>
    have hm' : j ≤ m := hm
    obtain ⟨m, rfl⟩ : ∃ i, m = i + 1 := ⟨m - 1, by omega⟩
    exact Nat.le_trans ih (fib_mono_step m)
theorem fib_le {k : Nat} (h : k ≤ 90) : fib k ≤ 2880067194370816120 := by
  have h90 : fib 90 = 2880067194370816120 := by decide +kernel
  rcases Nat.lt_or_ge k 1 with h0 | h1
  · have : k = 0 := by omega
    subst this; exact Nat.zero_le _
  · rw [← h90]; exact fib_mono h h1
/-- The numeral of n, out of the numbers up to k, the greatest first. -/
def enc : Nat → Nat → List Nat
  | 0, _ => []
  | k + 1, n => if n = 0 then [] else if fib (k + 1) ≤ n then (k + 1) :: enc k (n - fib (k + 1)) else enc k n
theorem enc_zero (k : Nat) : enc k 0 = [] := by cases k <;> simp [enc]
theorem enc_take {k n : Nat} (h0 : n ≠ 0) (h : fib (k + 1) ≤ n) : enc (k + 1) n = (k + 1) :: enc k (n - fib (k + 1)) := by simp [enc, h0, h]
theorem enc_skip {k n : Nat} (h0 : n ≠ 0) (h : ¬ fib (k + 1) ≤ n) : enc (k + 1) n = enc k n := by simp [enc, h0, h]
/-- Below the next number the rest stays below it. -/
theorem rest_lt {k n : Nat} (h : n < fib (k + 2)) (h1 : fib (k + 1) ≤ n) : n - fib (k + 1) < fib (k + 1) := by
  rw [fib_step] at h
  rcases k with _ | k
  · have e0 : fib 0 = 0 := rfl
    have e1 : fib 1 = 1 := rfl
    rw [e0] at h
    omega
  · have := fib_mono_step k
    show n - fib (k + 2) < fib (k + 2)
    have h : n < fib (k + 1) + fib (k + 2) := h
    have h1 : fib (k + 2) ≤ n := h1
    omega
theorem enc_length (k : Nat) : ∀ n, (enc k n).length ≤ k := by
  induction k with
  | zero => intro n; simp [enc]
  | succ k ih =>
    intro n
    unfold enc
    split
    · simp
    · split
      · simp; exact ih _
      · have := ih n; omega
end Go.Proofs.Fibo
