/- Many symbols, as plain laws: what a table of them tells, as far as it is gone over; one name twice. No program in sight. -/
import Derived.Test.YtdckfcpjdakjaaaMakeM
namespace Go.Proofs.Ytdckfcpjdakjaaa
set_option linter.unusedSimpArgs false
set_option linter.unusedVariables false
open Go.Maps

theorem foldl_snd (l : List Sym) : ∀ (a b c : List UInt8), (l.foldl stepM (a, c)).2 = (l.foldl stepM (b, c)).2 := by
  induction l with
  | nil => intros; rfl
  | cons x l ih => intro a b c; rw [List.foldl_cons, List.foldl_cons]; exact ih _ _ _

/-- The first entries of a table: all of them are told, as long as no name stands twice and they are few enough. -/
theorem allM_begin (sections : Int) : ∀ (l : List Sym) (out : List Sym) (pre names rest : List UInt8) (n : Nat),
    (∀ s ∈ l, mayM s = true ∧ s.val < 2 ^ 64 ∧ (s.sect ≤ sections ∨ s.sect = 0)) → (∃ r, names = (l.foldl stepM ([], pre)).2 ++ r) → names.length < 2 ^ 32 → ((out ++ l).map Sym.name).Nodup → (out ++ l).length ≤ 4096 →
    allM names sections (n + l.length) ((l.foldl stepM ([], pre)).1 ++ rest) out = allM names sections n rest (out ++ l)
  | [], out, pre, names, rest, n, _, _, _, _, _ => by simp
  | s :: l, out, pre, names, rest, n, hall, ⟨r, hnm⟩, hlen, hnd, hlt => by
    obtain ⟨hs, hv, hsec⟩ := hall s (by simp)
    obtain ⟨r1, hr1⟩ := foldl_names l (stepM ([], pre) s)
    have hnames : names = pre ++ (s.name ++ 0 :: (r1 ++ r)) := by
      rw [hnm, List.foldl_cons, hr1]
      simp [stepM]
    obtain ⟨r2, hr2, hq2⟩ := foldl_tab l (stepM ([], pre) s)
    have htab : ((s :: l).foldl stepM ([], pre)).1 = entryB pre.length s.kindN s.sect.toNat s.descN s.val ++ r2 := by
      rw [List.foldl_cons, hr2]; simp [stepM]
    have hr2' : (l.foldl stepM ([], pre ++ s.name ++ [0])).1 = r2 := by
      have := hq2 []
      simpa [stepM] using this
    have hpl : pre.length < names.length := by rw [hnames]; simp; omega
    have hE : entryM ((entryB pre.length s.kindN s.sect.toNat s.descN s.val ++ r2 ++ rest).take 16) names sections = some (0, s) := by
      rw [List.append_assoc, List.take_append_of_le_length (by rw [entryB_length]; omega), List.take_of_length_le (by rw [entryB_length]; omega)]
      exact entryM_made s names pre.length (r1 ++ r) hs hv (by omega) sections hsec (by rw [hnames]; simp) hpl
    rw [htab, List.length_cons, ← Nat.add_assoc, allM, hE]
    dsimp only
    rw [if_neg (by omega)]
    have hno : ¬ (out.any (fun x => x.name == s.name) = true) := by
      intro h
      obtain ⟨y, hy, he⟩ := List.any_eq_true.1 h
      rw [List.map_append, List.nodup_append] at hnd
      exact hnd.2.2 y.name (List.mem_map.2 ⟨y, hy, rfl⟩) s.name (by simp) (eq_of_beq he)
    rw [if_neg hno, if_neg (by simp at hlt; omega)]
    have hd : (entryB pre.length s.kindN s.sect.toNat s.descN s.val ++ r2 ++ rest).drop 16 = r2 ++ rest := by
      rw [List.append_assoc, List.drop_append_of_le_length (by rw [entryB_length]; omega), List.drop_of_length_le (by rw [entryB_length]; omega)]
      rfl
    rw [hd, ← hr2']
    have := allM_begin sections l (out ++ [s]) (pre ++ s.name ++ [0]) names rest n (fun x hx => hall x (by simp [hx]))
      ⟨r, by
        rw [hnm, List.foldl_cons]
        congr 1
        exact foldl_snd l _ _ _⟩
      hlen (by simpa using hnd) (by simpa using hlt)
    rw [this]
    simp

/-- One entry more, whose name stands there already. -/
theorem allM_again (names : List UInt8) (sections : Int) (n : Nat) (e : List UInt8) (out : List Sym) (s : Sym) (hE : entryM (e.take 16) names sections = some (0, s)) (h : out.any (fun x => x.name == s.name) = true) : (allM names sections (n + 1) e out).2 = 21 := by
  unfold allM
  rw [hE]
  dsimp only
  rw [if_neg (by omega), if_pos h]

/-- .. does not stand there, but there are as many as may be. -/
theorem allM_full (names : List UInt8) (sections : Int) (n : Nat) (e : List UInt8) (out : List Sym) (s : Sym) (hE : entryM (e.take 16) names sections = some (0, s)) (h : out.any (fun x => x.name == s.name) = false) (hl : out.length = 4096) : allM names sections (n + 1) e out = ([], 11) := by
  unfold allM
  rw [hE]
  dsimp only
  rw [if_neg (by omega), if_neg (by simp [h]), if_pos hl]

/-- .. and there are fewer. -/
theorem allM_last (names : List UInt8) (sections : Int) (e : List UInt8) (out : List Sym) (s : Sym) (hE : entryM (e.take 16) names sections = some (0, s)) (h : out.any (fun x => x.name == s.name) = false) (hl : out.length ≠ 4096) : (allM names sections 1 e out).2 = 0 := by
  unfold allM
  rw [hE]
  dsimp only
  rw [if_neg (by omega), if_neg (by simp [h]), if_neg hl]
  rfl

/-- The symbols of NlistMany. -/
def symI (i : Nat) : Sym := ⟨[UInt8.ofNat (97 + i % 64), UInt8.ofNat (97 + i / 64)], 0, i, false⟩
def listI (n : Nat) : List Sym := (List.range n).map symI

theorem listI_length (n : Nat) : (listI n).length = n := by simp [listI]
theorem listI_succ (n : Nat) : listI (n + 1) = listI n ++ [symI n] := by simp [listI, List.range_succ]
theorem listI_get {n i : Nat} (h : i < n) : (listI n)[i]? = some (symI i) := by simp [listI, h]
theorem listI_mem {n : Nat} {s : Sym} (h : s ∈ listI n) : ∃ i, i < n ∧ s = symI i := by
  obtain ⟨i, hi, rfl⟩ := List.mem_map.1 h
  exact ⟨i, List.mem_range.1 hi, rfl⟩

theorem symI_bytes {i : Nat} (h : i < 4100) : (UInt8.ofNat (97 + i % 64)).toNat = 97 + i % 64 ∧ (UInt8.ofNat (97 + i / 64)).toNat = 97 + i / 64 := by
  simp; omega

theorem symI_inj {i j : Nat} (hi : i < 4100) (hj : j < 4100) (h : (symI i).name = (symI j).name) : i = j := by
  obtain ⟨a1, a2⟩ := symI_bytes hi
  obtain ⟨b1, b2⟩ := symI_bytes hj
  simp only [symI, List.cons.injEq, and_true] at h
  rw [h.1, b1] at a1
  rw [h.2, b2] at a2
  omega

theorem symI_nul {i : Nat} (h : i < 4100) : nul (symI i).name = 2 := by
  obtain ⟨a1, a2⟩ := symI_bytes h
  have n1 : UInt8.ofNat (97 + i % 64) ≠ 0 := fun e => by rw [e] at a1; simp at a1; omega
  have n2 : UInt8.ofNat (97 + i / 64) ≠ 0 := fun e => by rw [e] at a2; simp at a2; omega
  show nul [_, _] = 2
  rw [nul_cons, if_neg n1, nul_cons, if_neg n2]; rfl

theorem symI_may {i v : Nat} (h : i < 4100) : mayM ⟨(symI i).name, 0, v, false⟩ = true := by
  have := symI_nul h
  unfold mayM
  rw [decide_eq_true_eq]
  exact ⟨by simp [symI], by simp [symI], by rw [this]; rfl, Int.le_refl 0, by show (0 : Int) ≤ 255; omega⟩

theorem listI_nodup {n : Nat} (h : n ≤ 4100) : ((listI n).map Sym.name).Nodup := by
  induction n with
  | zero => simp [listI]
  | succ n ih =>
    rw [listI_succ, List.map_append, List.nodup_append]
    refine ⟨ih (by omega), by simp, fun a ha b hb => ?_⟩
    obtain ⟨s, hs, rfl⟩ := List.mem_map.1 ha
    obtain ⟨i, hi, rfl⟩ := listI_mem hs
    simp at hb; subst hb
    intro e
    have := symI_inj (by omega) (by omega) e
    omega

theorem listI_ok {n : Nat} (h : n ≤ 4100) : ∀ s ∈ listI n, mayM s = true ∧ s.val < 2 ^ 64 ∧ (s.sect ≤ 0 ∨ s.sect = 0) := by
  intro s hs
  obtain ⟨i, hi, rfl⟩ := listI_mem hs
  exact ⟨symI_may (by omega), by show i < 2 ^ 64; omega, .inr rfl⟩

theorem names_len (n : Nat) : (tabN (listI n)).2.length = 3 * n + 1 := by
  induction n with
  | zero => rfl
  | succ n ih =>
    rw [listI_succ, tabN_snoc]
    simp only [stepM, List.length_append, ih, symI, List.length_cons, List.length_nil]
    omega

theorem tab_len (n : Nat) : (tabN (listI n)).1.length = 16 * n := by rw [tabN_len1, listI_length]

/-- A longer list's strings, its table: what the shorter one's are, and more. -/
theorem listI_more {n m : Nat} (h : n ≤ m) : ∃ r, (tabN (listI m)).2 = (tabN (listI n)).2 ++ r := by
  induction m with
  | zero =>
    obtain rfl : n = 0 := by omega
    exact ⟨[], by simp⟩
  | succ m ih =>
    rcases Nat.lt_or_ge m n with hlt | hge
    · obtain rfl : n = m + 1 := by omega
      exact ⟨[], by simp⟩
    · obtain ⟨r, hr⟩ := ih hge
      rw [listI_succ, tabN_snoc]
      exact ⟨r ++ (symI m).name ++ [0], by simp [stepM, hr]⟩

theorem listI_tab {n m : Nat} (h : n ≤ m) : ∃ r, (tabN (listI m)).1 = (tabN (listI n)).1 ++ r := by
  induction m with
  | zero =>
    obtain rfl : n = 0 := by omega
    exact ⟨[], by simp⟩
  | succ m ih =>
    rcases Nat.lt_or_ge m n with hlt | hge
    · obtain rfl : n = m + 1 := by omega
      exact ⟨[], by simp⟩
    · obtain ⟨r, hr⟩ := ih hge
      rw [listI_succ, tabN_snoc]
      exact ⟨r ++ entryB (tabN (listI m)).2.length (symI m).kindN (symI m).sect.toNat (symI m).descN (symI m).val, by simp [stepM, hr]⟩

theorem name_at {n i : Nat} (h : i < n) : ∃ r, (tabN (listI n)).2.drop (3 * i + 1) = (symI i).name ++ 0 :: r := by
  obtain ⟨r, hr⟩ := listI_more (show i + 1 ≤ n from h)
  rw [listI_succ, tabN_snoc] at hr
  refine ⟨r, ?_⟩
  rw [hr]
  simp only [stepM, List.append_assoc]
  rw [List.drop_append_of_le_length (by rw [names_len]; omega), List.drop_of_length_le (by rw [names_len]; omega)]
  simp

theorem make_many {n : Nat} (h : n ≤ 4100) : (makeM (listI n)).2.2 = (if 4096 < n then 11 else 0) := by
  have h0 : (listI n).any (fun s => !mayM s) = false := by
    rw [List.any_eq_false]
    intro s hs
    simp [(listI_ok h s hs).1]
  have h3 : twiceM (listI n) = false := by unfold twiceM; simp [listI_nodup h]
  unfold makeM
  rw [h0, if_neg (by simp)]
  by_cases h4 : 4096 < n
  · rw [if_pos (Or.inl (by rw [listI_length]; exact h4)), if_pos h4]
  · rw [if_neg (by rw [listI_length, names_len]; omega), h3, if_neg (by simp), if_neg h4]

/-- Any entry of a name that stands there. -/
theorem entry_at {n i v : Nat} (h : i < n) (hn : n ≤ 4100) (hv : v < 2 ^ 64) (rest : List UInt8) : entryM ((entryB (3 * i + 1) 3 0 0 v ++ rest).take 16) (tabN (listI n)).2 0 = some (0, ⟨(symI i).name, 0, v, false⟩) := by
  rw [List.take_append_of_le_length (by rw [entryB_length]; omega), List.take_of_length_le (by rw [entryB_length]; omega)]
  obtain ⟨r, hr⟩ := name_at h
  exact entryM_made ⟨(symI i).name, 0, v, false⟩ _ (3 * i + 1) r (symI_may (by omega)) hv (by omega) 0 (.inr rfl) hr (by rw [names_len]; omega)

/-- The first k entries are told. -/
theorem all_begin {n k m : Nat} (hk : k ≤ n) (hn : n ≤ 4100) (hk4 : k ≤ 4096) (rest : List UInt8) : allM (tabN (listI n)).2 0 (m + k) ((tabN (listI k)).1 ++ rest) [] = allM (tabN (listI n)).2 0 m rest (listI k) := by
  have h := allM_begin 0 (listI k) [] [0] (tabN (listI n)).2 rest m (listI_ok (by omega)) (listI_more hk) (by rw [names_len]; omega) (by simpa using listI_nodup (n := k) (by omega)) (by simpa [listI_length] using hk4)
  rw [listI_length] at h
  exact h

theorem table_many {n : Nat} (h : n ≤ 4096) : tableM (tabN (listI n)).1 (tabN (listI n)).2 0 = (listI n, 0) := by
  have h1 := all_begin (n := n) (k := n) (m := 0) (Nat.le_refl _) (by omega) h []
  unfold tableM
  rw [tab_len, if_neg (by omega), Nat.mul_div_cancel_left _ (by omega)]
  simpa [allM] using h1

theorem any_name {k i : Nat} (hk : k ≤ 4100) (hi : i < 4100) : (listI k).any (fun x => x.name == (symI i).name) = decide (i < k) := by
  by_cases h : i < k
  · rw [decide_eq_true h, List.any_eq_true]
    exact ⟨symI i, List.mem_of_getElem? (listI_get h), by simp⟩
  · rw [decide_eq_false h, List.any_eq_false]
    intro s hs
    obtain ⟨j, hj, rfl⟩ := listI_mem hs
    intro e
    have := symI_inj (by omega) hi (eq_of_beq e)
    omega

theorem table_over {n : Nat} (h : 4096 < n) (hn : n ≤ 4100) : tableM (tabN (listI n)).1 (tabN (listI n)).2 0 = ([], 11) := by
  obtain ⟨r, hr⟩ := listI_tab (show 4097 ≤ n by omega)
  have e1 : (tabN (listI 4097)).1 = (tabN (listI 4096)).1 ++ entryB (3 * 4096 + 1) 3 0 0 4096 := by
    rw [show (4097 : Nat) = 4096 + 1 from rfl, listI_succ, tabN_snoc]
    simp only [stepM, names_len]
    rfl
  rw [e1, List.append_assoc] at hr
  unfold tableM
  rw [tab_len, if_neg (by omega), Nat.mul_div_cancel_left _ (by omega), hr, show n = (n - 4097 + 1) + 4096 by omega]
  rw [show (n - 4097 + 1) + 4096 = n by omega]
  have h1 := all_begin (n := n) (k := 4096) (m := n - 4097 + 1) (by omega) hn (by omega) (entryB (3 * 4096 + 1) 3 0 0 4096 ++ r)
  rw [show (n - 4097 + 1) + 4096 = n by omega] at h1
  rw [h1]
  exact allM_full _ _ _ _ _ _ (entry_at (by omega) hn (by omega) r) (by
    show (listI 4096).any (fun x => x.name == (symI 4096).name) = false
    rw [any_name (by omega) (by omega)]; rfl) (listI_length _)

/-- The table whose last entry has the name of another one. -/
theorem table_twice {n i : Nat} (h1 : 1 ≤ n) (h : n ≤ 4096) (hi : i < n) : (tableM ((tabN (listI (n - 1))).1 ++ entryB (3 * i + 1) 3 0 0 0) (tabN (listI n)).2 0).2 = if i < n - 1 then 21 else 0 := by
  unfold tableM
  have hl : ((tabN (listI (n - 1))).1 ++ entryB (3 * i + 1) 3 0 0 0).length = 16 * n := by
    rw [List.length_append, tab_len, entryB_length]; omega
  rw [hl, if_neg (by omega), Nat.mul_div_cancel_left _ (by omega)]
  have h2 := all_begin (n := n) (k := n - 1) (m := 1) (by omega) (by omega) (by omega) (entryB (3 * i + 1) 3 0 0 0)
  rw [show 1 + (n - 1) = n by omega] at h2
  rw [h2]
  have hE := entry_at (n := n) (i := i) (v := 0) hi (by omega) (by omega) []
  rw [List.append_nil] at hE
  have ha := any_name (k := n - 1) (i := i) (by omega) (by omega)
  by_cases hlt : i < n - 1
  · rw [decide_eq_true hlt] at ha
    rw [if_pos hlt]
    exact allM_again _ _ 0 _ _ _ hE ha
  · rw [decide_eq_false hlt] at ha
    rw [if_neg hlt]
    exact allM_last _ _ _ _ _ hE ha (by rw [listI_length]; omega)

end Go.Proofs.Ytdckfcpjdakjaaa
