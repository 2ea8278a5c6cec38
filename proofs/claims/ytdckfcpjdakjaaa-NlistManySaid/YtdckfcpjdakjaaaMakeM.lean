/- What Make makes, as plain laws: a table and strings of symbols; that they are told as they were made. No program in sight. -/
import Derived.Test.YtdckfcpjdakjaaaPlain
import Derived.Test.YtdckfcpjdakjaaaMap
namespace Go.Proofs.Ytdckfcpjdakjaaa
set_option linter.unusedSimpArgs false
set_option linter.unusedVariables false
open Go.Maps

/-- May a symbol be? -/
def mayM (s : Sym) : Bool := decide (1 ≤ s.name.length ∧ s.name.length ≤ 255 ∧ nul s.name = s.name.length ∧ 0 ≤ s.sect ∧ s.sect ≤ 255)

/-- A number's bytes, the lowest first. -/
def leB (n : Nat) : Nat → List UInt8
  | 0 => []
  | k + 1 => UInt8.ofNat (n % 256) :: leB (n / 256) k

theorem leB_length (k : Nat) : ∀ n, (leB n k).length = k := by
  induction k with
  | zero => intro n; rfl
  | succ k ih => intro n; simp [leB, ih]

theorem leB_snoc (k : Nat) : ∀ n, leB n (k + 1) = leB n k ++ [UInt8.ofNat (n / 256 ^ k % 256)] := by
  induction k with
  | zero => intro n; simp [leB]
  | succ k ih =>
    intro n
    rw [leB, ih, leB, List.cons_append, Nat.div_div_eq_div_mul, Nat.pow_succ, Nat.mul_comm 256]

theorem leNat_leB (k : Nat) : ∀ n, leNat (leB n k) = n % 256 ^ k := by
  induction k with
  | zero => intro n; simp [leB, leNat, Nat.mod_one]
  | succ k ih =>
    intro n
    rw [leB, leNat, ih, Nat.pow_succ, Nat.mul_comm (256 ^ k) 256, Nat.mod_mul]
    simp

/-- An entry. -/
def entryB (at_ kind sect desc val : Nat) : List UInt8 := leB at_ 4 ++ leB kind 1 ++ leB sect 1 ++ leB desc 2 ++ leB val 8

theorem entryB_length (a k s d v : Nat) : (entryB a k s d v).length = 16 := by simp [entryB, leB_length]

def Sym.kindN (s : Sym) : Nat := if 0 < s.sect then 15 else 3
def Sym.descN (s : Sym) : Nat := if s.weak then 128 else 0

/-- One symbol more, behind what was made. -/
def stepM (p : List UInt8 × List UInt8) (s : Sym) : List UInt8 × List UInt8 :=
  (p.1 ++ entryB p.2.length s.kindN s.sect.toNat s.descN s.val, p.2 ++ s.name ++ [0])

def tabN (l : List Sym) : List UInt8 × List UInt8 := l.foldl stepM ([], [0])

theorem tabN_snoc (l : List Sym) (s : Sym) : tabN (l ++ [s]) = stepM (tabN l) s := by simp [tabN, List.foldl_append]

theorem tabN_len1 (l : List Sym) : (tabN l).1.length = 16 * l.length := by
  obtain ⟨r, rfl⟩ : ∃ r, l = r.reverse := ⟨l.reverse, by simp⟩
  induction r with
  | nil => rfl
  | cons x r ih =>
    rw [List.reverse_cons, tabN_snoc]
    simp only [stepM, List.length_append, entryB_length, ih, List.length_cons, List.length_nil]
    omega

theorem tabN_len2 (l : List Sym) (h : ∀ s ∈ l, s.name.length ≤ 255) : 1 ≤ (tabN l).2.length ∧ (tabN l).2.length ≤ 256 * l.length + 1 := by
  obtain ⟨r, rfl⟩ : ∃ r, l = r.reverse := ⟨l.reverse, by simp⟩
  induction r with
  | nil => exact ⟨by simp [tabN], by simp [tabN]⟩
  | cons x r ih =>
    rw [List.reverse_cons] at h ⊢
    rw [tabN_snoc]
    have h1 := ih (fun s hs => h s (by simp at hs; simp [hs]))
    have h2 := h x (by simp)
    simp only [stepM, List.length_append, List.length_cons, List.length_nil]
    omega

/-- Do two of them have one name? -/
def twiceM (l : List Sym) : Bool := !decide ((l.map Sym.name).Nodup)

/-- A table and strings, and an error. -/
def makeM (l : List Sym) : List UInt8 × List UInt8 × Nat :=
  if l.any (fun s => !mayM s) then ([], [], 2)
  else if 4096 < l.length ∨ 1048576 < (tabN l).2.length then ([], [], 11)
  else if twiceM l then ([], [], 21)
  else ((tabN l).1, (tabN l).2, 0)

theorem size_seenD_snoc (names : List (List UInt8)) (x : List UInt8) : Maps.size (seenD (names ++ [x])) = if names.any (· == x) then Maps.size (seenD names) else Maps.size (seenD names) + 1 := by
  have hk : ∀ y ∈ names.map Lit.string, WideAt.IsKeyLit y := fun y hy => by obtain ⟨z, _, rfl⟩ := List.mem_map.1 hy; trivial
  rw [seenD_snoc]
  show Maps.size ((setOf (.agg [.lit (.bool true)]) (names.map Lit.string)).put _ _) = if _ then Maps.size (setOf (.agg [.lit (.bool true)]) (names.map Lit.string)) else Maps.size (setOf (.agg [.lit (.bool true)]) (names.map Lit.string)) + 1
  rw [Maps.size_put (tidy_setOf _ _ hk), has_setOf _ _ _ hk]
  have e : (names.map Lit.string).any (fun y => y.sameKey (.string x)) = names.any (· == x) := by
    rw [List.any_map]
    congr 1
  rw [e]

theorem size_seenD (names : List (List UInt8)) : Maps.size (seenD names) ≤ names.length ∧ (Maps.size (seenD names) = names.length ↔ names.Nodup) := by
  obtain ⟨r, rfl⟩ : ∃ r, names = r.reverse := ⟨names.reverse, by simp⟩
  induction r with
  | nil => exact ⟨by simp [seenD, setOf, Maps.size], by simp [seenD, setOf, Maps.size]⟩
  | cons x r ih =>
    rw [List.reverse_cons, size_seenD_snoc]
    have hn : (r.reverse ++ [x]).Nodup ↔ r.reverse.Nodup ∧ x ∉ r.reverse := by
      rw [List.nodup_append]
      constructor
      · rintro ⟨h1, -, h3⟩; exact ⟨h1, fun hx => h3 x hx x (by simp) rfl⟩
      · rintro ⟨h1, h2⟩; exact ⟨h1, by simp, fun a ha b hb => by simp at hb; subst hb; intro e; subst e; exact h2 ha⟩
    rw [hn]
    obtain ⟨h1, h2⟩ := ih
    simp only [List.length_append, List.length_cons, List.length_nil]
    by_cases hx : x ∈ r.reverse
    · have ha : r.reverse.any (· == x) = true := List.any_eq_true.2 ⟨x, hx, by simp⟩
      rw [if_pos ha]
      exact ⟨by omega, ⟨fun h => by omega, fun h => absurd hx h.2⟩⟩
    · have ha : ¬ (r.reverse.any (· == x) = true) := fun h => by
        obtain ⟨y, hy, he⟩ := List.any_eq_true.1 h
        simp at he; subst he; exact hx hy
      rw [if_neg ha]
      exact ⟨by omega, ⟨fun h => ⟨h2.1 (by omega), hx⟩, fun h => by have := h2.2 h.1; omega⟩⟩

/-- How many different names there are. -/
theorem size_twice (l : List Sym) : decide (((Maps.size (seenD (l.map Sym.name)) : Nat) : Int) < (l.length : Int)) = twiceM l := by
  have h := size_seenD (l.map Sym.name)
  rw [List.length_map] at h
  unfold twiceM
  by_cases hn : (l.map Sym.name).Nodup
  · have := h.2.2 hn
    simp [hn]; omega
  · have : Maps.size (seenD (l.map Sym.name)) ≠ l.length := fun e => hn (h.2.1 e)
    simp [hn]; omega

/-! ### what was made is told as it was -/

theorem leB_one (n : Nat) : leB n 1 = [UInt8.ofNat (n % 256)] := rfl

theorem entryB_parts (a k s d v : Nat) :
    (entryB a k s d v).take 4 = leB a 4 ∧ (entryB a k s d v)[4]? = some (UInt8.ofNat (k % 256)) ∧ (entryB a k s d v)[5]? = some (UInt8.ofNat (s % 256)) ∧
    ((entryB a k s d v).drop 6).take 2 = leB d 2 ∧ ((entryB a k s d v).drop 8).take 8 = leB v 8 := by
  have h4 := leB_length 4 a
  have h2 := leB_length 2 d
  have h8 := leB_length 8 v
  obtain ⟨a0, a1, a2, a3, ea⟩ : ∃ a0 a1 a2 a3, leB a 4 = [a0, a1, a2, a3] := ⟨_, _, _, _, rfl⟩
  obtain ⟨d0, d1, ed⟩ : ∃ d0 d1, leB d 2 = [d0, d1] := ⟨_, _, rfl⟩
  unfold entryB
  rw [ea, ed, leB_one, leB_one]
  refine ⟨rfl, rfl, rfl, rfl, ?_⟩
  show List.take 8 (leB v 8) = leB v 8
  rw [List.take_of_length_le (by omega)]

theorem nul_app (l r : List UInt8) (h : nul l = l.length) : nul (l ++ 0 :: r) = l.length := by
  induction l with
  | nil => simp [nul_cons]
  | cons x l ih =>
    rw [nul_cons] at h
    split at h
    · simp at h
    · rename_i hx
      rw [List.cons_append, nul_cons, if_neg hx, ih (by simpa using h)]
      rfl

/-- The strings that are made begin with those that were made. -/
theorem foldl_names (l : List Sym) : ∀ p, ∃ r, (l.foldl stepM p).2 = p.2 ++ r := by
  induction l with
  | nil => exact fun p => ⟨[], by simp⟩
  | cons s l ih =>
    intro p
    obtain ⟨r, hr⟩ := ih (stepM p s)
    exact ⟨s.name ++ [0] ++ r, by rw [List.foldl_cons, hr]; simp [stepM]⟩

theorem foldl_tab (l : List Sym) : ∀ p, ∃ r, (l.foldl stepM p).1 = p.1 ++ r ∧ ∀ q, (l.foldl stepM (q, p.2)).1 = q ++ r := by
  induction l with
  | nil => exact fun p => ⟨[], by simp⟩
  | cons s l ih =>
    intro p
    obtain ⟨r, hr, hq⟩ := ih (stepM p s)
    refine ⟨entryB p.2.length s.kindN s.sect.toNat s.descN s.val ++ r, by rw [List.foldl_cons, hr]; simp [stepM], fun q => ?_⟩
    rw [List.foldl_cons]
    have := hq (q ++ entryB p.2.length s.kindN s.sect.toNat s.descN s.val)
    simpa [stepM] using this

theorem entryM_made (s : Sym) (names : List UInt8) (a : Nat) (r : List UInt8) (hm : mayM s = true) (hv : s.val < 2 ^ 64) (ha : a < 2 ^ 32) (sections : Int) (hs : s.sect ≤ sections ∨ s.sect = 0) (hn : names.drop a = s.name ++ 0 :: r) (hal : a < names.length) :
    entryM (entryB a s.kindN s.sect.toNat s.descN s.val) names sections = some (0, s) := by
  obtain ⟨p1, p2, p3, p4, p5⟩ := entryB_parts a s.kindN s.sect.toNat s.descN s.val
  unfold mayM at hm
  obtain ⟨m1, m2, m3, m4, m5⟩ := of_decide_eq_true hm
  have hnl : nul (names.drop a) = s.name.length := by rw [hn, nul_app _ _ m3]
  have htx : textM names a = (s.name, 0) := by
    unfold textM
    have hdl : (names.drop a).length = s.name.length + 1 + r.length := by rw [hn]; simp; omega
    rw [if_neg (by omega), hnl, if_neg (by rw [hdl]; omega), if_neg (by omega), hn]
    simp
  have hle : leNat (leB a 4) = a := by rw [leNat_leB]; exact Nat.mod_eq_of_lt ha
  have hlv : leNat (leB s.val 8) = s.val := by rw [leNat_leB]; exact Nat.mod_eq_of_lt hv
  have hk : (UInt8.ofNat (s.kindN % 256)).toNat = s.kindN := by unfold Sym.kindN; split <;> rfl
  have hsc : ((UInt8.ofNat (s.sect.toNat % 256)).toNat : Int) = s.sect := by simp; omega
  have hd : (leNat (leB s.descN 2) / 128 % 2 == 1) = s.weak := by
    rw [leNat_leB]; unfold Sym.descN; cases s.weak <;> rfl
  have ht : toldM s.kindN (UInt8.ofNat (s.sect.toNat % 256)).toNat (leNat (leB s.descN 2)) s.val sections = (⟨[], s.sect, s.val, s.weak⟩, true, 0) := by
    unfold toldM
    rw [hd, hsc]
    by_cases h0 : 0 < s.sect
    · have hk15 : s.kindN = 15 := by unfold Sym.kindN; rw [if_pos h0]
      rw [if_pos hk15, if_neg (by omega)]
    · have hk3 : s.kindN = 3 := by unfold Sym.kindN; rw [if_neg h0]
      have hs0 : s.sect = 0 := by omega
      rw [if_neg (by omega), if_pos hk3, hs0]
  unfold entryM
  rw [p1, p2, p3, p4, p5, hle, hlv, htx]
  simp only [Option.getD_some, hk, ht]
  rfl

/-- All that were made are told, as long as no name stands twice and they are few enough. -/
theorem allM_made (sections : Int) : ∀ (l : List Sym) (out : List Sym) (pre names : List UInt8) (r : List UInt8),
    (∀ s ∈ l, mayM s = true ∧ s.val < 2 ^ 64 ∧ (s.sect ≤ sections ∨ s.sect = 0)) → names = pre ++ (l.foldl stepM ([], pre)).2.drop pre.length → names.length < 2 ^ 32 → ((out ++ l).map Sym.name).Nodup → (out ++ l).length ≤ 4096 →
    allM names sections l.length (l.foldl stepM ([], pre)).1 out = (out ++ l, 0)
  | [], out, pre, names, r, _, _, _, _, _ => by simp [allM]
  | s :: l, out, pre, names, r, hall, hnm, hlen, hnd, hlt => by
    obtain ⟨hs, hv, hsec⟩ := hall s (by simp)
    obtain ⟨r1, hr1⟩ := foldl_names l (stepM ([], pre) s)
    have hnames : names = pre ++ (s.name ++ 0 :: r1) := by
      rw [hnm, List.foldl_cons, hr1]
      simp [stepM]
    obtain ⟨r2, hr2, hq2⟩ := foldl_tab l (stepM ([], pre) s)
    have htab : ((s :: l).foldl stepM ([], pre)).1 = entryB pre.length s.kindN s.sect.toNat s.descN s.val ++ r2 := by
      rw [List.foldl_cons, hr2]; simp [stepM]
    have hr2' : (l.foldl stepM ([], pre ++ s.name ++ [0])).1 = r2 := by
      have := hq2 []
      simpa [stepM] using this
    have hpl : pre.length < names.length := by rw [hnames]; simp; omega
    have hE : entryM ((entryB pre.length s.kindN s.sect.toNat s.descN s.val ++ r2).take 16) names sections = some (0, s) := by
      rw [List.take_append_of_le_length (by rw [entryB_length]; omega), List.take_of_length_le (by rw [entryB_length]; omega)]
      exact entryM_made s names pre.length r1 hs hv (by omega) sections hsec (by rw [hnames]; simp) hpl
    rw [htab, List.length_cons]
    unfold allM
    rw [hE]
    dsimp only
    rw [if_neg (by omega)]
    have hno : ¬ (out.any (fun x => x.name == s.name) = true) := by
      intro h
      obtain ⟨y, hy, he⟩ := List.any_eq_true.1 h
      rw [List.map_append, List.nodup_append] at hnd
      exact hnd.2.2 y.name (List.mem_map.2 ⟨y, hy, rfl⟩) s.name (by simp) (eq_of_beq he)
    rw [if_neg hno, if_neg (by simp at hlt; omega)]
    have hd : (entryB pre.length s.kindN s.sect.toNat s.descN s.val ++ r2).drop 16 = r2 := by
      rw [List.drop_append_of_le_length (by rw [entryB_length]; omega), List.drop_of_length_le (by rw [entryB_length]; omega)]
      rfl
    rw [hd, ← hr2']
    have := allM_made sections l (out ++ [s]) (pre ++ s.name ++ [0]) names r1 (fun x hx => hall x (by simp [hx]))
      (by
        obtain ⟨r3, hr3⟩ := foldl_names l ([], pre ++ s.name ++ [0])
        have hr13 : r3 = r1 := by
          obtain ⟨r4, hr4⟩ := foldl_names l (stepM ([], pre) s)
          have e1 : (l.foldl stepM (stepM ([], pre) s)).2 = (l.foldl stepM ([], pre ++ s.name ++ [0])).2 := by
            have : ∀ (l : List Sym) (a b c : List UInt8), (l.foldl stepM (a, c)).2 = (l.foldl stepM (b, c)).2 := by
              intro l
              induction l with
              | nil => intros; rfl
              | cons x l ih => intro a b c; rw [List.foldl_cons, List.foldl_cons]; exact ih _ _ _
            exact this l _ _ _
          rw [hr1, hr3] at e1
          simpa [stepM] using e1.symm
        rw [hr3, hr13, hnames]
        simp)
      hlen (by simpa using hnd) (by simpa using hlt)
    rw [this]
    simp

/-- What was made is told as it was. -/
theorem tableM_made (l : List Sym) (hv : ∀ s ∈ l, s.val < 2 ^ 64) (hm : makeM l = ((tabN l).1, (tabN l).2, 0)) (hall : l.any (fun s => !mayM s) = false) (hlt : l.length ≤ 4096) (hnl : (tabN l).2.length < 2 ^ 32) (hnd : (l.map Sym.name).Nodup)
    (sections : Int) (hsec : ∀ s ∈ l, s.sect ≤ sections ∨ s.sect = 0) : tableM (tabN l).1 (tabN l).2 sections = (l, 0) := by
  unfold tableM
  rw [if_neg (by rw [tabN_len1]; omega), tabN_len1, Nat.mul_div_cancel_left _ (by omega)]
  have hmay : ∀ s ∈ l, mayM s = true := fun s hs => by
    cases h : mayM s with
    | true => rfl
    | false =>
      have : l.any (fun s => !mayM s) = true := List.any_eq_true.2 ⟨s, hs, by simp [h]⟩
      rw [hall] at this; cases this
  have h := allM_made sections l [] [0] (tabN l).2 [] (fun s hs => ⟨hmay s hs, hv s hs, hsec s hs⟩)
    (by
      obtain ⟨r, hr⟩ := foldl_names l ([], [0])
      have hr : (tabN l).2 = [0] ++ r := hr
      show (tabN l).2 = [0] ++ (tabN l).2.drop 1
      rw [hr]; rfl)
    hnl (by simpa using hnd) (by simpa using hlt)
  exact h

end Go.Proofs.Ytdckfcpjdakjaaa
