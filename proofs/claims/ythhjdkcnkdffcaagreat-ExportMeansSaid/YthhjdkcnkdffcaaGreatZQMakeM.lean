/- What Make makes, as plain laws: a table and strings of symbols; that they are told as they were made. No program in sight. -/
import Derived.Test.YthhjdkcnkdffcaaGreatZPlain
import Derived.Test.YthhjdkcnkdffcaaGreatZQCur
import Derived.Test.YthhjdkcnkdffcaaGreatZAppend
import Derived.Test.YthhjdkcnkdffcaaGreatZQRefC
import Derived.Test.YthhjdkcnkdffcaaGreatShelf
import Derived.Deep.RegionHeld3
namespace Go.Proofs.YthhjdkcnkdffcaaGreat.Nl
set_option linter.unusedSimpArgs false
set_option linter.unusedVariables false
open Go.Maps

/-- May a symbol be? -/
def mayM (s : Sym) : Bool := decide (1 ≤ s.name.length ∧ s.name.length ≤ 255 ∧ nul s.name = s.name.length ∧ 0 ≤ s.sect ∧ s.sect ≤ 255)

/-- A number's bytes, the lowest first. -/
def leB (n : Nat) : Nat → List UInt8
  | 0 => []
  | k + 1 => UInt8.ofNat (n % 256) :: leB (n / 256) k

theorem leB_length (k : Nat) : ∀ n, (leB n k).length = k := by
  induction k with
  | zero => intro n; rfl
  | succ k ih => intro n; simp [leB, ih]

theorem leB_snoc (k : Nat) : ∀ n, leB n (k + 1) = leB n k ++ [UInt8.ofNat (n / 256 ^ k % 256)] := by
  induction k with
  | zero => intro n; simp [leB]
  | succ k ih =>
    intro n
    rw [leB, ih, leB, List.cons_append, Nat.div_div_eq_div_mul, Nat.pow_succ, Nat.mul_comm 256]

theorem leNat_leB (k : Nat) : ∀ n, leNat (leB n k) = n % 256 ^ k := by
  induction k with
  | zero => intro n; simp [leB, leNat, Nat.mod_one]
  | succ k ih =>
    intro n
    rw [leB, leNat, ih, Nat.pow_succ, Nat.mul_comm (256 ^ k) 256, Nat.mod_mul]
    simp

/-- An entry. -/
def entryB (at_ kind sect desc val : Nat) : List UInt8 := leB at_ 4 ++ leB kind 1 ++ leB sect 1 ++ leB desc 2 ++ leB val 8

theorem entryB_length (a k s d v : Nat) : (entryB a k s d v).length = 16 := by simp [entryB, leB_length]

def _root_.Go.Proofs.YthhjdkcnkdffcaaGreat.Sym.kindN (s : Sym) : Nat := if 0 < s.sect then 15 else 3
def _root_.Go.Proofs.YthhjdkcnkdffcaaGreat.Sym.descN (s : Sym) : Nat := if s.weak then 128 else 0

/-- One symbol more, behind what was made. -/
def stepM (p : List UInt8 × List UInt8) (s : Sym) : List UInt8 × List UInt8 :=
  (p.1 ++ entryB p.2.length s.kindN s.sect.toNat s.descN s.val, p.2 ++ s.name ++ [0])

def tabN (l : List Sym) : List UInt8 × List UInt8 := l.foldl stepM ([], [0])

theorem tabN_snoc (l : List Sym) (s : Sym) : tabN (l ++ [s]) = stepM (tabN l) s := by simp [tabN, List.foldl_append]

theorem tabN_len1 (l : List Sym) : (tabN l).1.length = 16 * l.length := by
  obtain ⟨r, rfl⟩ : ∃ r, l = r.reverse := ⟨l.reverse, by simp⟩
  induction r with
  | nil => rfl
  | cons x r ih =>
    rw [List.reverse_cons, tabN_snoc]
    simp only [stepM, List.length_append, entryB_length, ih, List.length_cons, List.length_nil]
    omega

theorem tabN_len2 (l : List Sym) (h : ∀ s ∈ l, s.name.length ≤ 255) : 1 ≤ (tabN l).2.length ∧ (tabN l).2.length ≤ 256 * l.length + 1 := by
  obtain ⟨r, rfl⟩ : ∃ r, l = r.reverse := ⟨l.reverse, by simp⟩
  induction r with
  | nil => exact ⟨by simp [tabN], by simp [tabN]⟩
  | cons x r ih =>
    rw [List.reverse_cons] at h ⊢
    rw [tabN_snoc]
    have h1 := ih (fun s hs => h s (by simp at hs; simp [hs]))
    have h2 := h x (by simp)
    simp only [stepM, List.length_append, List.length_cons, List.length_nil]
    omega

/-- Do two of them have one name? -/
def twiceM (l : List Sym) : Bool := !decide ((l.map Sym.name).Nodup)

/-- A table and strings, and an error. -/
def makeM (l : List Sym) : List UInt8 × List UInt8 × Nat :=
  if l.any (fun s => !mayM s) then ([], [], 2)
  else if 4096 < l.length ∨ 1048576 < (tabN l).2.length then ([], [], 11)
  else if twiceM l then ([], [], 21)
  else ((tabN l).1, (tabN l).2, 0)

theorem size_seenD_snoc (names : List (List UInt8)) (x : List UInt8) : Maps.size (seenD (names ++ [x])) = if names.any (· == x) then Maps.size (seenD names) else Maps.size (seenD names) + 1 := by
  have hk : ∀ y ∈ names.map Lit.string, WideAt.IsKeyLit y := fun y hy => by obtain ⟨z, _, rfl⟩ := List.mem_map.1 hy; trivial
  rw [seenD_snoc]
  show Maps.size ((setOf (.agg [.lit (.bool true)]) (names.map Lit.string)).put _ _) = if _ then Maps.size (setOf (.agg [.lit (.bool true)]) (names.map Lit.string)) else Maps.size (setOf (.agg [.lit (.bool true)]) (names.map Lit.string)) + 1
  rw [Maps.size_put (tidy_setOf _ _ hk), has_setOf _ _ _ hk]
  have e : (names.map Lit.string).any (fun y => y.sameKey (.string x)) = names.any (· == x) := by
    rw [List.any_map]
    congr 1
  rw [e]

theorem size_seenD (names : List (List UInt8)) : Maps.size (seenD names) ≤ names.length ∧ (Maps.size (seenD names) = names.length ↔ names.Nodup) := by
  obtain ⟨r, rfl⟩ : ∃ r, names = r.reverse := ⟨names.reverse, by simp⟩
  induction r with
  | nil => exact ⟨by simp [seenD, setOf, Maps.size], by simp [seenD, setOf, Maps.size]⟩
  | cons x r ih =>
    rw [List.reverse_cons, size_seenD_snoc]
    have hn : (r.reverse ++ [x]).Nodup ↔ r.reverse.Nodup ∧ x ∉ r.reverse := by
      rw [List.nodup_append]
      constructor
      · rintro ⟨h1, -, h3⟩; exact ⟨h1, fun hx => h3 x hx x (by simp) rfl⟩
      · rintro ⟨h1, h2⟩; exact ⟨h1, by simp, fun a ha b hb => by simp at hb; subst hb; intro e; subst e; exact h2 ha⟩
    rw [hn]
    obtain ⟨h1, h2⟩ := ih
    simp only [List.length_append, List.length_cons, List.length_nil]
    by_cases hx : x ∈ r.reverse
    · have ha : r.reverse.any (· == x) = true := List.any_eq_true.2 ⟨x, hx, by simp⟩
      rw [if_pos ha]
      exact ⟨by omega, ⟨fun h => by omega, fun h => absurd hx h.2⟩⟩
    · have ha : ¬ (r.reverse.any (· == x) = true) := fun h => by
        obtain ⟨y, hy, he⟩ := List.any_eq_true.1 h
        simp at he; subst he; exact hx hy
      rw [if_neg ha]
      exact ⟨by omega, ⟨fun h => ⟨h2.1 (by omega), hx⟩, fun h => by have := h2.2 h.1; omega⟩⟩

/-- How many different names there are. -/
theorem size_twice (l : List Sym) : decide (((Maps.size (seenD (l.map Sym.name)) : Nat) : Int) < (l.length : Int)) = twiceM l := by
  have h := size_seenD (l.map Sym.name)
  rw [List.length_map] at h
  unfold twiceM
  by_cases hn : (l.map Sym.name).Nodup
  · have := h.2.2 hn
    simp [hn]; omega
  · have : Maps.size (seenD (l.map Sym.name)) ≠ l.length := fun e => hn (h.2.1 e)
    simp [hn]; omega

/-! ### what was made is told as it was -/

theorem leB_one (n : Nat) : leB n 1 = [UInt8.ofNat (n % 256)] := rfl

theorem entryB_parts (a k s d v : Nat) :
    (entryB a k s d v).take 4 = leB a 4 ∧ (entryB a k s d v)[4]? = some (UInt8.ofNat (k % 256)) ∧ (entryB a k s d v)[5]? = some (UInt8.ofNat (s % 256)) ∧
    ((entryB a k s d v).drop 6).take 2 = leB d 2 ∧ ((entryB a k s d v).drop 8).take 8 = leB v 8 := by
  have h4 := leB_length 4 a
  have h2 := leB_length 2 d
  have h8 := leB_length 8 v
  obtain ⟨a0, a1, a2, a3, ea⟩ : ∃ a0 a1 a2 a3, leB a 4 = [a0, a1, a2, a3] := ⟨_, _, _, _, rfl⟩
  obtain ⟨d0, d1, ed⟩ : ∃ d0 d1, leB d 2 = [d0, d1] := ⟨_, _, rfl⟩
  unfold entryB
  rw [ea, ed, leB_one, leB_one]
  refine ⟨rfl, rfl, rfl, rfl, ?_⟩
  show List.take 8 (leB v 8) = leB v 8
  rw [List.take_of_length_le (by omega)]

theorem nul_app (l r : List UInt8) (h : nul l = l.length) : nul (l ++ 0 :: r) = l.length := by
  induction l with
  | nil => simp [nul_cons]
  | cons x l ih =>
    rw [nul_cons] at h
    split at h
    · simp at h
    · rename_i hx
      rw [List.cons_append, nul_cons, if_neg hx, ih (by simpa using h)]
      rfl

/-- The strings that are made begin with those that were made. -/
theorem foldl_names (l : List Sym) : ∀ p, ∃ r, (l.foldl stepM p).2 = p.2 ++ r := by
  induction l with
  | nil => exact fun p => ⟨[], by simp⟩
  | cons s l ih =>
    intro p
    obtain ⟨r, hr⟩ := ih (stepM p s)
    exact ⟨s.name ++ [0] ++ r, by rw [List.foldl_cons, hr]; simp [stepM]⟩

theorem foldl_tab (l : List Sym) : ∀ p, ∃ r, (l.foldl stepM p).1 = p.1 ++ r ∧ ∀ q, (l.foldl stepM (q, p.2)).1 = q ++ r := by
  induction l with
  | nil => exact fun p => ⟨[], by simp⟩
  | cons s l ih =>
    intro p
    obtain ⟨r, hr, hq⟩ := ih (stepM p s)
    refine ⟨entryB p.2.length s.kindN s.sect.toNat s.descN s.val ++ r, by rw [List.foldl_cons, hr]; simp [stepM], fun q => ?_⟩
    rw [List.foldl_cons]
    have := hq (q ++ entryB p.2.length s.kindN s.sect.toNat s.descN s.val)
    simpa [stepM] using this

theorem entryM_made (s : Sym) (names : List UInt8) (a : Nat) (r : List UInt8) (hm : mayM s = true) (hv : s.val < 2 ^ 64) (ha : a < 2 ^ 32) (sections : Int) (hs : s.sect ≤ sections ∨ s.sect = 0) (hn : names.drop a = s.name ++ 0 :: r) (hal : a < names.length) :
    entryM (entryB a s.kindN s.sect.toNat s.descN s.val) names sections = some (0, s) := by
  obtain ⟨p1, p2, p3, p4, p5⟩ := entryB_parts a s.kindN s.sect.toNat s.descN s.val
  unfold mayM at hm
  obtain ⟨m1, m2, m3, m4, m5⟩ := of_decide_eq_true hm
  have hnl : nul (names.drop a) = s.name.length := by rw [hn, nul_app _ _ m3]
  have htx : textM names a = (s.name, 0) := by
    unfold textM
    have hdl : (names.drop a).length = s.name.length + 1 + r.length := by rw [hn]; simp; omega
    rw [if_neg (by omega), hnl, if_neg (by rw [hdl]; omega), if_neg (by omega), hn]
    simp
  have hle : leNat (leB a 4) = a := by rw [leNat_leB]; exact Nat.mod_eq_of_lt ha
  have hlv : leNat (leB s.val 8) = s.val := by rw [leNat_leB]; exact Nat.mod_eq_of_lt hv
  have hk : (UInt8.ofNat (s.kindN % 256)).toNat = s.kindN := by unfold Sym.kindN; split <;> rfl
  have hsc : ((UInt8.ofNat (s.sect.toNat % 256)).toNat : Int) = s.sect := by simp; omega
  have hd : (leNat (leB s.descN 2) / 128 % 2 == 1) = s.weak := by
    rw [leNat_leB]; unfold Sym.descN; cases s.weak <;> rfl
  have ht : toldM s.kindN (UInt8.ofNat (s.sect.toNat % 256)).toNat (leNat (leB s.descN 2)) s.val sections = (⟨[], s.sect, s.val, s.weak⟩, true, 0) := by
    unfold toldM
    rw [hd, hsc]
    by_cases h0 : 0 < s.sect
    · have hk15 : s.kindN = 15 := by unfold Sym.kindN; rw [if_pos h0]
      rw [if_pos hk15, if_neg (by omega)]
    · have hk3 : s.kindN = 3 := by unfold Sym.kindN; rw [if_neg h0]
      have hs0 : s.sect = 0 := by omega
      rw [if_neg (by omega), if_pos hk3, hs0]
  unfold entryM
  rw [p1, p2, p3, p4, p5, hle, hlv, htx]
  simp only [Option.getD_some, hk, ht]
  rfl

/-- All that were made are told, as long as no name stands twice and they are few enough. -/
theorem allM_made (sections : Int) : ∀ (l : List Sym) (out : List Sym) (pre names : List UInt8) (r : List UInt8),
    (∀ s ∈ l, mayM s = true ∧ s.val < 2 ^ 64 ∧ (s.sect ≤ sections ∨ s.sect = 0)) → names = pre ++ (l.foldl stepM ([], pre)).2.drop pre.length → names.length < 2 ^ 32 → ((out ++ l).map Sym.name).Nodup → (out ++ l).length ≤ 4096 →
    allM names sections l.length (l.foldl stepM ([], pre)).1 out = (out ++ l, 0)
  | [], out, pre, names, r, _, _, _, _, _ => by simp [allM]
  | s :: l, out, pre, names, r, hall, hnm, hlen, hnd, hlt => by
    obtain ⟨hs, hv, hsec⟩ := hall s (by simp)
    obtain ⟨r1, hr1⟩ := foldl_names l (stepM ([], pre) s)
    have hnames : names = pre ++ (s.name ++ 0 :: r1) := by
      rw [hnm, List.foldl_cons, hr1]
      simp [stepM]
    obtain ⟨r2, hr2, hq2⟩ := foldl_tab l (stepM ([], pre) s)
    have htab : ((s :: l).foldl stepM ([], pre)).1 = entryB pre.length s.kindN s.sect.toNat s.descN s.val ++ r2 := by
      rw [List.foldl_cons, hr2]; simp [stepM]
    have hr2' : (l.foldl stepM ([], pre ++ s.name ++ [0])).1 = r2 := by
      have := hq2 []
      simpa [stepM] using this
    have hpl : pre.length < names.length := by rw [hnames]; simp; omega
    have hE : entryM ((entryB pre.length s.kindN s.sect.toNat s.descN s.val ++ r2).take 16) names sections = some (0, s) := by
      rw [List.take_append_of_le_length (by rw [entryB_length]; omega), List.take_of_length_le (by rw [entryB_length]; omega)]
      exact entryM_made s names pre.length r1 hs hv (by omega) sections hsec (by rw [hnames]; simp) hpl
    rw [htab, List.length_cons]
    unfold allM
    rw [hE]
    dsimp only
    rw [if_neg (by omega)]
    have hno : ¬ (out.any (fun x => x.name == s.name) = true) := by
      intro h
      obtain ⟨y, hy, he⟩ := List.any_eq_true.1 h
      rw [List.map_append, List.nodup_append] at hnd
      exact hnd.2.2 y.name (List.mem_map.2 ⟨y, hy, rfl⟩) s.name (by simp) (eq_of_beq he)
    rw [if_neg hno, if_neg (by simp at hlt; omega)]
    have hd : (entryB pre.length s.kindN s.sect.toNat s.descN s.val ++ r2).drop 16 = r2 := by
      rw [List.drop_append_of_le_length (by rw [entryB_length]; omega), List.drop_of_length_le (by rw [entryB_length]; omega)]
      rfl
    rw [hd, ← hr2']
    have := allM_made sections l (out ++ [s]) (pre ++ s.name ++ [0]) names r1 (fun x hx => hall x (by simp [hx]))
      (by
        obtain ⟨r3, hr3⟩ := foldl_names l ([], pre ++ s.name ++ [0])
        have hr13 : r3 = r1 := by
          obtain ⟨r4, hr4⟩ := foldl_names l (stepM ([], pre) s)
          have e1 : (l.foldl stepM (stepM ([], pre) s)).2 = (l.foldl stepM ([], pre ++ s.name ++ [0])).2 := by
            have : ∀ (l : List Sym) (a b c : List UInt8), (l.foldl stepM (a, c)).2 = (l.foldl stepM (b, c)).2 := by
              intro l
              induction l with
              | nil => intros; rfl
              | cons x l ih => intro a b c; rw [List.foldl_cons, List.foldl_cons]; exact ih _ _ _
            exact this l _ _ _
          rw [hr1, hr3] at e1
          simpa [stepM] using e1.symm
        rw [hr3, hr13, hnames]
        simp)
      hlen (by simpa using hnd) (by simpa using hlt)
    rw [this]
    simp

/-- What was made is told as it was. -/
theorem tableM_made (l : List Sym) (hv : ∀ s ∈ l, s.val < 2 ^ 64) (hm : makeM l = ((tabN l).1, (tabN l).2, 0)) (hall : l.any (fun s => !mayM s) = false) (hlt : l.length ≤ 4096) (hnl : (tabN l).2.length < 2 ^ 32) (hnd : (l.map Sym.name).Nodup)
    (sections : Int) (hsec : ∀ s ∈ l, s.sect ≤ sections ∨ s.sect = 0) : tableM (tabN l).1 (tabN l).2 sections = (l, 0) := by
  unfold tableM
  rw [if_neg (by rw [tabN_len1]; omega), tabN_len1, Nat.mul_div_cancel_left _ (by omega)]
  have hmay : ∀ s ∈ l, mayM s = true := fun s hs => by
    cases h : mayM s with
    | true => rfl
    | false =>
      have : l.any (fun s => !mayM s) = true := List.any_eq_true.2 ⟨s, hs, by simp [h]⟩
      rw [hall] at this; cases this
  have h := allM_made sections l [] [0] (tabN l).2 [] (fun s hs => ⟨hmay s hs, hv s hs, hsec s hs⟩)
    (by
      obtain ⟨r, hr⟩ := foldl_names l ([], [0])
      have hr : (tabN l).2 = [0] ++ r := hr
      show (tabN l).2 = [0] ++ (tabN l).2.drop 1
      rw [hr]; rfl)
    hnl (by simpa using hnd) (by simpa using hlt)
  exact h

end Go.Proofs.YthhjdkcnkdffcaaGreat.Nl

namespace Go.Proofs.YthhjdkcnkdffcaaGreat.Nl
set_option linter.unusedSimpArgs false
set_option linter.unusedVariables false
open Go.RowKit

theorem Tryz.infoByte : (Tryz.prog.info? 5).map (fun i => (i.zero, i.size, i.bytes)) = some (some (.int .u8 0), 1, 1) := by kernel_rfl
theorem un_bsE : Tryz.prog.underlying 27 = some (.slice 5) := by kernel_rfl
theorem u8row : ∃ i, U8Row Tryz.prog 27 5 i := by
  obtain ⟨i0, hi, hz0, hz1, hz2⟩ := info_parts Tryz.infoByte
  exact ⟨i0, un_bsE, hi, hz0, hz1, hz2⟩

theorem put_byte (n k : Nat) : ((n : Int) / 2 ^ (8 * k) % 256) = (((UInt8.ofNat (n / 256 ^ k % 256)).toNat : Nat) : Int) := by
  have e : (256 : Nat) ^ k = 2 ^ (8 * k) := by rw [Nat.pow_mul]
  have e2 : (n : Int) / 2 ^ (8 * k) % 256 = ((n / 2 ^ (8 * k) % 256 : Nat) : Int) := by simp
  rw [e2, e]
  simp

/-- One byte that was just laid, as what is appended. -/
theorem Src.byte {P : Program} (w : World) {tx e' t : TypeId} (hk : P.underlying tx = some (.slice e')) (x : Int) (y : UInt8) (hx : x = (y.toNat : Int)) (m : Nat × Nat) :
    Src P 1 tx (.slice (some ⟨w.heap.size, 0, none⟩) 1 1) [y].length (u8s [y]) (w.alloc (.cells #[.int .u8 x] t m)) := by
  subst hx
  exact Src.one w hk _ rfl m

theorem low_byte (y : Nat) : ((y : Int) % 256) = (((UInt8.ofNat (y % 256)).toNat : Nat) : Int) := by simp

set_option maxHeartbeats 400000 in
set_option maxRecDepth 8000 in
theorem ref_low (w : World) (n size : Nat) (m : Int) (hm : m = size) (hs : size ≤ 8) (hn : n < 2 ^ 64) :
    Calls Tryz.prog 55 #[.int .u64 n, .int .i64 m] w fun e w' => ∃ v', e = .returned v' ∧ OB w' w.heap.size 5 v' (leB n size) ∧ Below w.heap.size w w' := by
  subst hm
  obtain ⟨i, R⟩ := u8row
  have H := hid R
  have hdiv : ∀ k : Nat, n / 256 ^ k < 2 ^ 64 := fun k => Nat.lt_of_le_of_lt (Nat.div_le_self _ _) hn
  have Hd := hid hdiv
  clear R hdiv
  go_enter Tryz.func55, Tryz.ntmps55
  go_wp2
  go_loopw [0, 5, 6] (fun x b i wr => ∃ k y : Nat, k ≤ size ∧ i = .int .i64 k ∧ y = n / 256 ^ k ∧ x = .int .u64 (y : Int) ∧ OB wr w.heap.size 5 b (leB n k) ∧ Below w.heap.size w wr) (fun _ _ i _ => size - (intOf i).toNat)
  case atStart => exact ⟨0, n, Nat.zero_le _, rfl, by simp, rfl, OB.nil _ _ _, Below.refl _ _⟩
  case round =>
    obtain ⟨k, y, hk, rfl, hy, rfl, hown, hb⟩ := hrel
    have Hr := hid (And.intro hown hb)
    have hz := hb.size
    have hlt64 : y < 2 ^ 64 := by rw [hy]; exact Hd.out k
    have Hy := hid hy
    clear hy
    clear hown hb
    by_cases hlt : k < size
    · go_wp2_with (at_builtin; refine wpList_bytes H.out _ rfl _ _ _ rfl w.heap.size _ (leB n k) rfl (Hr.out.1.below ((Below.refl _ _).alloc (Nat.le_refl _) _)) _ [UInt8.ofNat (y % 256)] rfl (Src.byte wr un_bsE _ _ (low_byte y) _) ?c3 ?c4 ?_)
      case c3 => simp [leB_length]; omega
      case c4 => simp; omega
      intro v' w1 hown1 hgr1
      have H1 := hid (And.intro hown1 hgr1)
      clear hown1 hgr1
      go_wp2
      refine ⟨⟨k + 1, y / 256, by omega, by go_num, ?_, by go_num, ?_, ?_⟩, by simp [intOf]; omega⟩
      · rw [Nat.pow_succ, ← Nat.div_div_eq_div_mul, Hy.out]
      · rw [leB_snoc, ← Hy.out]; exact H1.out.1
      · exact Hr.out.2.trans (Below.trans ((Below.refl _ _).alloc hz _) (H1.out.2.below (by simp; omega) Hr.out.1.high))
    · go_wp2
      go_ret
      obtain rfl : k = size := by omega
      exact ⟨_, rfl, Hr.out.1, Hr.out.2⟩

/-- Two bytes that were just laid, as what is appended. -/
theorem Src.bytes2 {P : Program} (w : World) {tx e' t : TypeId} (hk : P.underlying tx = some (.slice e')) (a b : Nat) (ha : a ≤ 255) (hb : b ≤ 255) (m : Nat × Nat) :
    Src P 1 tx (.slice (some ⟨w.heap.size, 0, none⟩) 2 2) (leB a 1 ++ leB b 1).length (u8s (leB a 1 ++ leB b 1)) (w.alloc (.cells #[.int .u8 (a : Int), .int .u8 (b : Int)] t m)) := by
  have e : u8s (leB a 1 ++ leB b 1) = [.int .u8 (a : Int), .int .u8 (b : Int)] := by
    simp [u8s, leB]; omega
  rw [e]
  refine Src.ofSlice _ hk _ 2 2 _ (by simp) (fun j x hx => ?_) (fun x hx => by simp at hx; rcases hx with rfl | rfl <;> rfl)
  have hc := fun i => cell_of_row (w.alloc (.cells #[.int .u8 (a : Int), .int .u8 (b : Int)] t m)) _ i _ _ _ (heap_alloc_new w _)
  rcases j with _ | _ | j
  · simp at hx; subst hx; exact hc 0
  · simp at hx; subst hx; exact hc 1
  · simp at hx

set_option maxHeartbeats 1000000 in
set_option maxRecDepth 8000 in
theorem ref_entry (w : World) (a k s d v : Nat) (ha : a < 2 ^ 63) (hk : k ≤ 255) (hs : s ≤ 255) (hd : d < 2 ^ 63) (hv : v < 2 ^ 64) :
    Calls Tryz.prog 37 #[.int .i64 a, .int .i64 k, .int .i64 s, .int .i64 d, .int .u64 v] w fun e w' => ∃ v', e = .returned v' ∧ OB w' w.heap.size 5 v' (entryB a k s d v) ∧ Below w.heap.size w w' := by
  obtain ⟨i, R⟩ := u8row
  have H := hid R
  clear R
  have w1 : IntKind.u64.wrap (a : Int) = a := IntWalk.u64_in _ (by omega)
  have w2 : IntKind.u64.wrap (d : Int) = d := IntWalk.u64_in _ (by omega)
  go_enter Tryz.func37, Tryz.ntmps37
  go_wp2_with fail
  refine (ref_low _ a 4 _ rfl (by omega) (by omega)).mono ?_
  rintro e W1 ⟨v1, rfl, hown1, hb1⟩
  have H1 := hid (And.intro hown1 hb1)
  have hz1 := hb1.size
  clear hown1 hb1
  go_wp2_with (at_builtin; refine wpList_bytes H.out _ rfl _ _ _ rfl w.heap.size _ (leB a 4) rfl (H1.out.1.below ((Below.refl _ _).alloc (Nat.le_refl _) _)) _ (leB k 1 ++ leB s 1) rfl (Src.bytes2 W1 un_bsE k s hk hs _) ?c3 ?c4 ?_)
  case c3 => simp [leB_length]
  case c4 => simp; omega
  intro v2 W2 hown2 hg2
  have hb2 := hg2.below (B := w.heap.size) (by simp; omega) H1.out.1.high
  have H2 := hid (And.intro hown2 ((H1.out.2.alloc hz1 _).trans hb2))
  have hz2 : w.heap.size ≤ W2.heap.size := H2.out.2.size
  clear hown2 hb2 hg2
  go_wp2_with fail
  refine (ref_low _ d 2 _ rfl (by omega) (by omega)).mono ?_
  rintro e W3 ⟨v3, rfl, hown3, hb3⟩
  have hz3 := hb3.size
  have H3 := hid (And.intro (H2.out.1.below hb3) (And.intro (H2.out.2.trans (hb3.mono hz2)) (hown3.bs (by simp [leB_length]))))
  obtain ⟨a3, c3, rfl⟩ := hown3.form
  rw [leB_length] at *
  clear hown3 hb3
  go_wp2_with (at_builtin; refine wpList_bytes H.out _ rfl _ _ _ rfl w.heap.size _ _ rfl H3.out.1 _ (leB d 2) rfl (by have := Src.ofBS (P := Tryz.prog) un_bsE H3.out.2.2; rwa [leB_length]) ?c3 ?c4 ?_)
  case c3 => simp [leB_length]
  case c4 => omega
  intro v4 W4 hown4 hg4
  have hb4 := hg4.below (B := w.heap.size) (by omega) H3.out.1.high
  have H4 := hid (And.intro hown4 (H3.out.2.1.trans hb4))
  have hz4 : w.heap.size ≤ W4.heap.size := H4.out.2.size
  clear hown4 hb4 hg4
  go_wp2_with fail
  refine (ref_low _ v 8 _ rfl (by omega) (by omega)).mono ?_
  rintro e W5 ⟨v5, rfl, hown5, hb5⟩
  have hz5 := hb5.size
  have H5 := hid (And.intro (H4.out.1.below hb5) (And.intro (H4.out.2.trans (hb5.mono hz4)) (hown5.bs (by simp [leB_length]))))
  obtain ⟨a5, c5, rfl⟩ := hown5.form
  clear hown5 hb5
  go_wp2_with (at_builtin; refine wpList_bytes H.out _ rfl _ _ _ rfl w.heap.size _ _ rfl H5.out.1 _ (leB v 8) rfl (Src.ofBS (P := Tryz.prog) un_bsE H5.out.2.2) ?c3 ?c4 ?_)
  case c3 => simp [leB_length]
  case c4 => omega
  intro v6 W6 hown6 hg6
  have hb6 := hg6.below (B := w.heap.size) (by omega) H5.out.1.high
  have H6 := hid (And.intro hown6 (H5.out.2.1.trans hb6))
  clear hown6 hb6 hg6
  go_wp2
  go_ret
  refine ⟨_, rfl, ?_, H6.out.2⟩
  have h := H6.out.1
  unfold entryB
  simpa [List.append_assoc] using h

end Go.Proofs.YthhjdkcnkdffcaaGreat.Nl

namespace Go.Proofs.YthhjdkcnkdffcaaGreat.Nl
set_option linter.unusedSimpArgs false
set_option linter.unusedVariables false
open Go.RowKit Go.Maps

/-- A slice of bytes that the call lays. -/
theorem BS.laid (w : World) (l : List UInt8) (t : TypeId) (hl : l.length ≤ 140737488355328) : BS (w.alloc (.cells (u8s l).toArray t)) (.slice (some ⟨w.heap.size, 0, none⟩) l.length l.length) l := by
  refine ⟨_, _, rfl, Nat.le_refl _, ⟨Nat.le_trans hl (by decide), hl⟩, fun hne => ⟨w.heap.size, 0, rfl, fun i x hx => ?_⟩⟩
  rw [Nat.zero_add, cell_of_row _ _ i _ _ _ (heap_alloc_new w _)]
  simp [u8s, hx]

/-- A slice of bytes that lies whole in a block. -/
theorem BS.block {w : World} {g : Nat} {l : List UInt8} {t : TypeId} {fr : Nat × Nat} (h : w.heap[g]? = some (.cells (u8s l).toArray t fr)) (hl : l.length ≤ 140737488355328) : BS w (.slice (some ⟨g, 0, none⟩) l.length l.length) l := by
  refine ⟨_, _, rfl, Nat.le_refl _, ⟨Nat.le_trans hl (by decide), hl⟩, fun hne => ⟨g, 0, rfl, fun i x hx => ?_⟩⟩
  rw [Nat.zero_add, cell_of_row _ _ i _ _ _ h]
  simp [u8s, hx]

/-- A slice of symbols that lies whole in a block. -/
theorem SS.block {w : World} {g : Nat} {l : List Sym} {t : TypeId} {fr : Nat × Nat} (h : w.heap[g]? = some (.cells (symsCells l).toArray t fr)) (hl : l.length ≤ 140737488355328) : SS w (.slice (some ⟨g, 0, none⟩) l.length l.length) l := by
  refine ⟨_, _, rfl, Nat.le_refl _, hl, fun hne => ⟨g, 0, rfl, fun k s hs => ?_⟩⟩
  have hc := fun i (hi : i < 4) => (cell_of_row _ _ (k * 4 + i) _ _ _ h).trans (by simpa using (symsCells_at l k i hi))
  rw [hs] at hc
  rw [Nat.zero_add]
  exact ⟨hc 0 (by omega), hc 1 (by omega), hc 2 (by omega), hc 3 (by omega)⟩

def tb (x : UInt8) : List UInt8 := [1, 0, 0, 0, x, 1, 0, 0, 8, 0, 0, 0, 0, 0, 0, 0]

theorem tab_15 : tableM (tb 15) [0, 97, 0] 1 = ([⟨[97], 1, 8, false⟩], 0) := by rfl
theorem tab_14 : tableM (tb 14) [0, 97, 0] 1 = ([], 0) := by rfl
theorem tab_31 : tableM (tb 31) [0, 97, 0] 1 = ([], 0) := by rfl
theorem tab_1 : tableM (tb 1) [0, 97, 0] 1 = ([], 0) := by rfl
theorem tab_47 : tableM (tb 47) [0, 97, 0] 1 = ([], 0) := by rfl

def othersB : List UInt8 := [14, 31, 1, 47]

/-- What holds at the head of each round of known's loop. -/
structure KnownRel (w : World) (wr : World) (k : Nat) : Prop where
  below : Below w.heap.size w wr
  tab : ∃ x, wr.heap[w.heap.size]? = some (.cells (u8s (tb x)).toArray 5 (0, 0))
  nam : wr.heap[w.heap.size + 1]? = some (.cells (u8s [0, 97, 0]).toArray 5 (0, 0))

theorem tab_others {k : Nat} (hk : k < 4) : ∃ x, othersB[k]? = some x ∧ tableM (tb x) [0, 97, 0] 1 = ([], 0) := by
  rcases k with _ | _ | _ | _ | k
  · exact ⟨14, rfl, tab_14⟩
  · exact ⟨31, rfl, tab_31⟩
  · exact ⟨1, rfl, tab_1⟩
  · exact ⟨47, rfl, tab_47⟩
  · omega

theorem tb_set (x y : UInt8) : ((u8s (tb x)).toArray.setIfInBounds 4 (.int .u8 (y.toNat : Int))) = (u8s (tb y)).toArray := rfl

end Go.Proofs.YthhjdkcnkdffcaaGreat.Nl

namespace Go.Proofs.YthhjdkcnkdffcaaGreat.Nl
set_option linter.unusedSimpArgs false
set_option linter.unusedVariables false
open Go.RowKit Go.Maps

theorem has0 (l : List UInt8) : decide (0 ≤ Lib.indexByte l 0) = decide (nul l < l.length) := by
  rw [indexByte_nul, decide_eq_decide]
  split <;> omega

theorem str_ne (l : List UInt8) : decide (¬ mkS l = ⟨#[]⟩) = !decide (l = []) := by
  have : (mkS l = ⟨#[]⟩) ↔ l = [] := ⟨fun h => by have := congrArg (fun s : ByteArray => s.data.toList) h; simpa [mkS] using this, fun h => by rw [h]; rfl⟩
  simp [this]

/-- What '[]byte(s)' lays, read. -/
theorem bs_bytes (w : World) (l : List UInt8) (cap : Nat) (t : TypeId) (m : Nat × Nat) (hc : l.length ≤ cap) (hm : cap ≤ maxLen) (hl : l.length ≤ 140737488355328) :
    BS (w.alloc (.cells (bytesRow (mkS l) cap) t m)) (.slice (some ⟨w.heap.size, 0, none⟩) (mkS l).size cap) l := by
  refine ⟨_, cap, ?_, hc, ⟨hm, hl⟩, fun _ => ⟨w.heap.size, 0, rfl, fun i x hx => ?_⟩⟩
  · show _ = Value.slice _ l.length _
    congr 1
  · have hi : i < l.length := (List.getElem?_eq_some_iff.1 hx).1
    have hg := bytesRow_at (mkS l) cap i (by simpa [mkS] using hi)
    rw [Nat.zero_add]
    have hb : (w.alloc (.cells (bytesRow (mkS l) cap) t m)).heap[w.heap.size]? = some (.cells (bytesRow (mkS l) cap) t m) := heap_alloc_new _ _
    rw [cell_of_row _ _ i _ _ _ hb, hg]
    have : (mkS l).data[i]'(by simpa [mkS] using hi) = x := by
      have h2 := List.getElem?_eq_some_iff.1 hx
      simpa [mkS] using h2.2
    rw [this]

theorem bs_bytes2 (W : World) (l : List UInt8) (k : Nat) (cap : Nat) (t : TypeId) (m : Nat × Nat) (hk : W.heap.size = k) (hc : l.length ≤ cap) (hm : cap ≤ maxLen) (hl : l.length ≤ 140737488355328) :
    BS (W.alloc (.cells (bytesRow (mkS l) cap) t m)).drew.drew (.slice (some ⟨k, 0, none⟩) l.length cap) l := by
  subst hk
  exact (bs_bytes W l cap t m hc hm hl).heap rfl

/-- w' lies over w. -/
def Under (w w' : World) : Prop := Below w.heap.size w w'
theorem under_drew (w w' : World) : Under w w'.drew = Under w w' := propext ⟨fun h => ⟨h.os, h.tape, h.output, h.size, h.block⟩, fun h => ⟨h.os, h.tape, h.output, h.size, h.block⟩⟩
theorem under_refl (w : World) : Under w w := Below.refl _ _
theorem under_alloc {w w' : World} (h : Under w w') (o : Obj) : Under w (w'.alloc o) := Below.alloc h h.size o

theorem under2 (w : World) (X Y : Obj) : Below w.heap.size w ((w.alloc X).alloc Y).drew.drew := by
  show Under _ _
  rw [under_drew, under_drew]
  exact under_alloc (under_alloc (under_refl w) _) _

set_option maxHeartbeats 2000000 in
set_option maxRecDepth 8000 in
theorem ref_may (w : World) (nm : List UInt8) (sect : Int) (val : Nat) (weak : Bool) :
    Calls Tryz.prog 36 #[.agg #[.string (mkS nm), .int .i64 sect, .int .u64 val, .bool weak]] w fun e w' => e = .returned (.bool (mayM ⟨nm, sect, val, weak⟩)) ∧ Below w.heap.size w w' := by
  have hle := nul_le nm
  by_cases h1 : nm = []
  · subst h1
    have hm : mayM ⟨[], sect, val, weak⟩ = false := by unfold mayM; simp
    rw [hm]
    clear hm
    go_enter Tryz.func36, Tryz.ntmps36
    go_wp2
    go_quiet (fail)
    go_wp2
    go_ret
    exact ⟨rfl, below_drewN ((Below.refl _ _).alloc (Nat.le_refl _) _) _⟩
  have hne : (nm == []) = false := by cases nm <;> simp_all
  have hne2 : nm.isEmpty = false := by cases nm <;> simp_all
  by_cases h2 : 255 < nm.length
  · have hm : mayM ⟨nm, sect, val, weak⟩ = false := by unfold mayM; simp only [decide_eq_false_iff_not]; (try dsimp only); omega
    have hld : decide ((nm.length : Int) ≤ 255) = false := decide_eq_false (by omega)
    rw [hm]
    clear hm
    go_enter Tryz.func36, Tryz.ntmps36
    go_wp2
    go_quiet (fail)
    go_wp2
    go_ret
    exact ⟨rfl, below_drewN ((Below.refl _ _).alloc (Nat.le_refl _) _) _⟩
  have h2' : nm.length ≤ 255 := by omega
  have hld : decide ((nm.length : Int) ≤ 255) = true := decide_eq_true (by omega)
  have hcv := fun (w : World) => run_bytes_of_string (P := Tryz.prog) w 9 27 5 (mkS nm) un_str un_bs8 un_u8
  have hbs := fun (w : World) => bs_bytes w nm (grownCap w (mkS nm).size 0 5) 5
  by_cases h3 : nul nm < nm.length
  · have hm : mayM ⟨nm, sect, val, weak⟩ = false := by unfold mayM; simp only [decide_eq_false_iff_not]; omega
    have htk : (nm.take (nul nm) == nm) = false := by
      rw [beq_eq_false_iff_ne]
      intro h
      have := congrArg List.length h
      rw [List.length_take] at this
      omega
    rw [hm]
    clear hm
    go_enter Tryz.func36, Tryz.ntmps36
    go_wp2
    first
      | go_region_with (go_at_call 54; refine (ref_name _ _ _ _ nm (bs_bytes2 _ nm _ _ _ _ (by simp) (grownCap_ge _ _ _ _) (grownCap_le_maxLen _ _ _ _ (by simp only [maxLen]; omega)) (by omega))).mono ?_; rintro e w' ⟨rfl, rfl⟩)
      | fail "region"
    all_goals go_wp2
    all_goals go_ret
    all_goals exact ⟨rfl, under2 w _ _⟩
  have htk0 : nm.take (nul nm) = nm := List.take_of_length_le (by omega)
  have htk : (nm.take (nul nm) == nm) = true := by rw [htk0]; exact beq_self_eq_true nm
  by_cases h4 : sect < 0
  · have hm : mayM ⟨nm, sect, val, weak⟩ = false := by unfold mayM; simp only [decide_eq_false_iff_not]; omega
    have h4d : decide (0 ≤ sect) = false := decide_eq_false (by omega)
    rw [hm]
    clear hm
    go_enter Tryz.func36, Tryz.ntmps36
    go_wp2
    first
      | go_region_with (go_at_call 54; refine (ref_name _ _ _ _ nm (bs_bytes2 _ nm _ _ _ _ (by simp) (grownCap_ge _ _ _ _) (grownCap_le_maxLen _ _ _ _ (by simp only [maxLen]; omega)) (by omega))).mono ?_; rintro e w' ⟨rfl, rfl⟩)
      | fail "region"
    all_goals go_wp2
    all_goals go_ret
    all_goals exact ⟨rfl, under2 w _ _⟩
  · have hm : mayM ⟨nm, sect, val, weak⟩ = decide (sect ≤ 255) := by
      have hpos : 1 ≤ nm.length := List.length_pos_iff.mpr h1
      unfold mayM; rw [decide_eq_decide]; dsimp only; omega
    have h4d : decide (0 ≤ sect) = true := decide_eq_true (by omega)
    rw [hm]
    clear hm
    go_enter Tryz.func36, Tryz.ntmps36
    go_wp2
    first
      | go_region_with (go_at_call 54; refine (ref_name _ _ _ _ nm (bs_bytes2 _ nm _ _ _ _ (by simp) (grownCap_ge _ _ _ _) (grownCap_le_maxLen _ _ _ _ (by simp only [maxLen]; omega)) (by omega))).mono ?_; rintro e w' ⟨rfl, rfl⟩)
      | fail "region"
    all_goals go_wp2
    all_goals go_ret
    all_goals exact ⟨rfl, under2 w _ _⟩

end Go.Proofs.YthhjdkcnkdffcaaGreat.Nl
