/- export.All and export.Find of the laws' image, by what trie and nlist answer; what the reference's Make makes of exports. -/
import Derived.Test.YthhjdkcnkdffcaaGreatZExB
import Derived.Test.YthhjdkcnkdffcaaGreatZExM
import Derived.Test.YthhjdkcnkdffcaaGreatZEbD
import Derived.Test.YthhjdkcnkdffcaaGreatZMkY
import Derived.Test.YthhjdkcnkdffcaaGreatZQMake
namespace Go.Proofs.YthhjdkcnkdffcaaGreat
set_option linter.unusedSimpArgs false
set_option linter.unusedVariables false
open Go.RowKit

theorem ex_all (w : World) (p : Option Addr) (n cap : Nat) (I : Array Value) (t T N : List UInt8) (hs : BS w (.slice p n cap) (zeroP ++ t ++ T ++ N)) (h : PlainI w I t.length T.length N.length) (hn : n ≤ 9000000) (hok : t ≠ [] → (allS t).1 = 0) :
    Calls Tryz.prog 10 #[.slice p n cap, .agg I] w (AllEnd w (allX t T N)) := by
  refine ex_all_gen w p n cap I t T N hs h hn (rawM t T N) ?_ ?_ ?_
  · intro ht w0 p1 n1 c1 hv
    refine ex_leaves_all w0 p1 n1 c1 (rawM t T N) fun w1 hb => ?_
    have := Eb.trie_all (Bad := False) w1 p1 n1 c1 t (hv.below hb) (fun f => f.elim) (fun e => e (hok ht))
    refine this.mono ?_
    rintro e w' ⟨v, rfl, h1, h2⟩
    refine ⟨v, ?_, ?_, h2⟩
    · rw [show (rawM t T N).2 = (allS t).1 from by unfold rawM; rw [if_pos ht]]
    · rw [show (rawM t T N).1 = (allS t).2 from by unfold rawM; rw [if_pos ht]]; exact h1
  · intro ht hT w0 p1 n1 c1 q1 m1 d1 h1 h2
    have e : rawM t T N = (byNames ((tableM T N 1).1.map exS), (tableM T N 1).2) := by unfold rawM; rw [if_neg (by simpa using ht), if_pos hT]
    rw [e]
    exact ex_table_all w0 p1 q1 n1 c1 m1 d1 T N fun w1 hb => Nl.nl_all w1 p1 q1 n1 c1 m1 d1 T N 1 (h1.below hb) (h2.below hb)
  · intro ht hT
    unfold rawM
    rw [if_neg (by simpa using ht), if_neg (by simpa using hT)]

theorem ex_find (w : World) (p : Option Addr) (n cap : Nat) (I : Array Value) (t T N name : List UInt8) (hs : BS w (.slice p n cap) (zeroP ++ t ++ T ++ N)) (h : PlainI w I t.length T.length N.length) (hn : n ≤ 9000000) (hok : t ≠ [] → (findT t name).2.2 = 0) :
    Calls Tryz.prog 11 #[.slice p n cap, .agg I, .string (mkS name)] w (FindEnd w (findX t T N name)) := by
  refine ex_find_gen w p n cap I t T N name hs h hn (srcF t T N name) ?_ ?_ ?_
  · intro ht w0 p1 n1 c1 hv
    refine ex_leaves_find w0 p1 n1 c1 name (srcF t T N name) fun w1 hb => ?_
    have e : srcF t T N name = findT t name := by unfold srcF; rw [if_pos ht]
    rw [e]
    exact Eb.trie_find (Bad := False) w1 p1 n1 c1 t name (hv.below hb) (fun f => f.elim) (fun e => e (hok ht))
  · intro ht hT w0 p1 n1 c1 q1 m1 d1 h1 h2
    have e : srcF t T N name = if (Nl.findM (tableM T N 1) name).2.2 ≠ 0 ∨ (Nl.findM (tableM T N 1) name).2.1 = false then (Exp.zero, false, (Nl.findM (tableM T N 1) name).2.2) else (exS (Nl.findM (tableM T N 1) name).1, true, 0) := by
      unfold srcF; rw [if_neg (by simpa using ht), if_pos hT]
    rw [e]
    exact ex_table_find w0 p1 q1 n1 c1 m1 d1 name (Nl.findM (tableM T N 1) name).1 (Nl.findM (tableM T N 1) name).2.1 (Nl.findM (tableM T N 1) name).2.2 fun w1 hb => Nl.nl_find w1 p1 q1 n1 c1 m1 d1 T N 1 name (h1.below hb) (h2.below hb)
  · intro ht hT
    unfold srcF
    rw [if_neg (by simpa using ht), if_neg (by simpa using hT)]

/-- How many bytes are made of few exports, at most. -/
theorem cap_few {l : List Exp} {F : Fo} (h : Tied [] l F) (hg : ∀ y ∈ l, GoodX y) (hl : l.length ≤ 3) : capB (allK F) ≤ 1048576 := by
  have hmany := h.many
  have h1 : ∀ k ∈ allK F, capK k ≤ 68500 := by
    intro k hk
    have hin := allK_in h (fun y hy => (hg y hy).name3) k hk
    have h2 : (k.kids.map (fun r => r.1.length + 11)).sum ≤ k.kids.length * 266 := by
      refine sum_le _ 266 _ fun r hr => ?_
      obtain ⟨-, ⟨y, hy, p, hp⟩, -⟩ := hin.kids r hr
      have := hp.length_le
      rw [List.length_append] at this
      have := (hg y hy).name2
      omega
    have h3 := hin.few
    have h4 : (saidM k.says).length ≤ 296 := by
      cases hs : k.says with
      | none => simp [saidM]
      | some x => have := saidM_len x; have := (hg x (hin.says x hs)).other2; omega
    unfold capK
    omega
  have h5 := sum_le capK 68500 (allK F) h1
  rw [allK_len] at h5
  unfold capB
  omega

/-- What the reference's Make makes. -/
theorem mk_spec (l : List Exp) (hx : ∀ x ∈ l, x.value < 2 ^ 64 ∧ x.resolver < 2 ^ 64 ∧ x.ordinal < 2 ^ 64) :
    ∃ (t : List UInt8) (z : Int), t.length ≤ 1048576 ∧ (z = 0 → allS t = (0, byNames l) ∧ NamesApart l ∧ ∀ x ∈ l, x.name.length ≤ 255) ∧ (z ≠ 0 → t = []) ∧ (l.all mayE = true → apartB l = true → l.length ≤ 3 → z = 0) ∧
      ∀ (w : World) (p : Option Addr) (cap : Nat), ES w (.slice p l.length cap) l → Calls Tryz.prog 8 #[.slice p l.length cap] w fun e w' => (∃ a c, e = .returned (.tuple #[.slice a t.length c, .int .i64 z]) ∧ BS w' (.slice a t.length c) t) ∧ Below w.heap.size w w' := by
  obtain ⟨F, P, hF⟩ := made_of l hx
  obtain ⟨⟨t, z⟩, hr⟩ : ∃ r, r = makeM l (allK F) P := ⟨_, rfl⟩
  have hlen := makeM_len hx hF hr.symm
  refine ⟨t, z, hlen, fun hz => ?_, fun hz => makeM_bad hr.symm hz, fun h1 h2 h3 => ?_, fun w p cap h => ?_⟩
  · subst hz
    obtain ⟨-, h2, h3, -, h5⟩ := makeM_good hx hF hr.symm
    exact ⟨h2, h3, h5⟩
  · obtain ⟨hT, -⟩ := hF h1 h2
    have hp := byNames_perm l
    have hcap := cap_few hT (fun y hy => good_of (List.all_eq_true.1 h1 y (hp.mem_iff.1 hy)) (hx y (hp.mem_iff.1 hy)).1 (hx y (hp.mem_iff.1 hy)).2.1 (hx y (hp.mem_iff.1 hy)).2.2) (by rw [hp.length_eq]; exact h3)
    have hle := outB_le P (allK F)
    unfold makeM at hr
    rw [if_neg (by simp [h1]), if_neg (by omega)] at hr
    by_cases h0 : l.length = 0
    · rw [if_pos h0] at hr
      exact congrArg Prod.snd hr
    · rw [if_neg h0, if_neg (by simp [h2]), if_neg (by omega)] at hr
      exact congrArg Prod.snd hr
  · have := rmake_any w p cap l F P h hx hF
    rw [← hr] at this
    refine this.mono ?_
    rintro e w' ⟨⟨a, c, rfl, hob⟩, hb⟩
    exact ⟨⟨a, c, rfl, hob.bs (show t.length ≤ 140737488355328 by omega)⟩, hb⟩

/-- What plain answers, its length as a number. -/
structure PlainN (w w' : World) (t s r : List UInt8) (p : Option Addr) (n d : Nat) (I : Array Value) : Prop where
  few : n ≤ 9000000
  bytes : BS w' (.slice p n d) (zeroP ++ t ++ s ++ r)
  img : PlainI w' I t.length s.length r.length
  high : ∀ k, inBlk (.slice p n d) k → w.heap.size ≤ k
  segs : ∃ b, I[4]? = some (.slice (some ⟨b, 0, none⟩) 1 1) ∧ w.heap.size ≤ b
  noB : ∀ (j : Nat) (b : Bool), I[j]? = some (.bool b) → j = 23
  below : Below w.heap.size w w'
theorem ex_plain_n (w : World) (a b c : Option Addr) (na nb nc ca cb cc : Nat) (t s r : List UInt8) (ht : BS w (.slice a na ca) t) (hs : BS w (.slice b nb cb) s) (hr : BS w (.slice c nc cc) r) (h1 : na ≤ 2000000) (h2 : nb ≤ 2000000) (h3 : nc ≤ 2000000) :
    Calls Tryz.prog 9 #[.slice a na ca, .slice b nb cb, .slice c nc cc] w fun e w' => ∃ p n d I, e = .returned (.tuple #[.slice p n d, .agg I]) ∧ PlainN w w' t s r p n d I := by
  have e1 := ht.len
  have e2 := hs.len
  have e3 := hr.len
  refine (ex_plain w a b c na nb nc ca cb cc t s r ht hs hr h1 h2 h3).mono ?_
  rintro e w' ⟨⟨p, d, I, rfl, hb, hI, hk, hsg, hno⟩, hbel⟩
  refine ⟨p, _, d, I, rfl, ?_, hb, hI, hk, hsg, hno, hbel⟩
  rw [List.length_append, List.length_append, List.length_append, zeroP_len]
  omega

/-- .. and the image put into a variable that lies below. -/
theorem PlainN.put {w w' : World} {t s r : List UInt8} {p : Option Addr} {n d : Nat} {I : Array Value} (h : PlainN w w' t s r p n d I) {K : Nat} (hK : K < w.heap.size) (J : Array Value) :
    BS (w'.setRow K J) (.slice p n d) (zeroP ++ t ++ s ++ r) ∧ PlainI (w'.setRow K J) I t.length s.length r.length := by
  refine ⟨h.bytes.of_block fun k hk _ => setRow_other w' K k J (by have := h.high k hk; omega), ?_⟩
  obtain ⟨b, hb, hbl⟩ := h.segs
  have hoth := setRow_other w' K b J (by omega)
  obtain ⟨v, q, h1, h2⟩ := h.img.segs
  rw [hb] at h1
  cases h1
  refine ⟨h.img.ok, ⟨_, q, hb, ?_⟩, h.img.deps, h.img.trie, h.img.syms, h.img.strs⟩
  obtain ⟨p', cap', hv, g1, g2, g3⟩ := h2
  refine ⟨p', cap', hv, g1, g2, fun hne => ?_⟩
  obtain ⟨b', off', hp, hc⟩ := g3 hne
  cases hp
  cases hv
  refine ⟨_, _, rfl, fun i x hx j u hu => ?_⟩
  have := hc i x hx j u hu
  rw [World.cell?_of_block hoth]
  exact this

/-- Exports do not lie in an image's block. -/
theorem ES_not_img {W : World} {p : Option Addr} {n c K : Nat} {x : Exp} {r : List Exp} {I : Array Value} {t : TypeId} (h : ES W (.slice p n c) (x :: r)) (hK : W.heap[K]? = some (.cells I t (0, 0))) (hs : I.size = 24) (hb : ∀ (j : Nat) (b : Bool), I[j]? = some (.bool b) → j = 23) {k : Nat} (hk : inBlk (.slice p n c) k) : k ≠ K := by
  rintro rfl
  obtain ⟨g, off, rfl, c0, c1, c2, c3, -⟩ := h.at (k := 0) rfl
  have hg : g = k := hk.2
  subst hg
  rw [cell_of_row _ _ _ _ _ _ hK] at c2 c3
  have h2 := hb _ _ c2
  have h3 := (Array.getElem?_eq_some_iff.1 c3).1
  omega

theorem ES_lit (w : World) (l : List Exp) (t : TypeId) (hl : l.length ≤ 140737488355328) : ES (w.alloc (.cells (expCells l).toArray t)) (.slice (some ⟨w.heap.size, 0, none⟩) l.length l.length) l :=
  ES.of_owns (base := 0) (e := t) ⟨expCells_len l, .inr ⟨w.heap.size, l.length, (expCells l).toArray, rfl, Nat.zero_le _, heap_alloc_new w _, Nat.le_refl _, Nat.le_trans hl (by decide), by simp [expCells_len], List.take_of_length_le (by simp [expCells_len])⟩⟩ hl
end Go.Proofs.YthhjdkcnkdffcaaGreat

namespace Go.Proofs.YthhjdkcnkdffcaaGreat
set_option linter.unusedSimpArgs false
set_option linter.unusedVariables false
open Go.RowKit
attribute [local go_sem ↓] old_img old_simg old_cimg
attribute [local go_sem] big_img big_simg big_cimg
attribute [local go_sem] fullA_last setRow_last

def x0 : Exp := ⟨[97], 1, false, 16, 0, 0, []⟩
def y0 : Exp := ⟨[98], 1, false, 32, 0, 0, []⟩
def s0 : Sym := ⟨[98], 1, 4128, false⟩
def T0 : List UInt8 := [1, 0, 0, 0, 15, 1, 0, 0, 32, 16, 0, 0, 0, 0, 0, 0]
def N0 : List UInt8 := [0, 98, 0]
theorem make_s0 : Nl.makeM [s0] = (T0, N0, 0) := by kernel_rfl
theorem tab_s0 : tableM T0 N0 1 = ([s0], 0) := by kernel_rfl
theorem byNames_one (x : Exp) : byNames [x] = [x] := by simp [byNames]
theorem raw_one {t : List UInt8} {x : Exp} (h : allS t = (0, byNames [x])) (T N : List UInt8) : t ≠ [] ∧ rawM t T N = ([x], 0) := by
  rw [byNames_one] at h
  have ht : t ≠ [] := by
    intro e
    subst e
    have := congrArg Prod.snd h
    rw [show (allS []).2 = [] from byNames_nil] at this
    cases this
  refine ⟨ht, ?_⟩
  unfold rawM
  rw [if_pos ht, h]
theorem all_x0 {t : List UInt8} (h : allS t = (0, byNames [x0])) (T N : List UInt8) : allX t T N = ([x0], 0) := by
  rw [allX_one (raw_one h T N).2]
  rfl
theorem all_s0 : allX [] T0 N0 = ([y0], 0) := by
  have h : rawM [] T0 N0 = ([y0], 0) := by
    unfold rawM
    rw [if_neg (by simp), if_pos (by simp [T0]), tab_s0]
    show (byNames [exS s0], 0) = _
    rw [byNames_one]
    rfl
  rw [allX_one h]
  rfl

theorem lit_x0 (w : World) : ES (w.alloc (.cells #[.string ⟨#[97]⟩, .int .i64 1, .bool false, .int .u64 16, .int .u64 0, .int .u64 0, .string ⟨#[]⟩] 25)) (.slice (some ⟨w.heap.size, 0, none⟩) 1 1) [x0] := ES_lit w [x0] _ (by simp)
theorem lit_s0 (w : World) : Nl.SS (w.alloc (.cells #[.string ⟨#[98]⟩, .int .i64 1, .int .u64 4128, .bool false] 62)) (.slice (some ⟨w.heap.size, 0, none⟩) 1 1) [s0] := Nl.SS.block (l := [s0]) (heap_alloc_new w _) (by simp)

theorem box_img {W : World} {K : Nat} {I : Array Value} (h : W.heap[K]? = some (.cells I 38 (0, 0))) (hI : ImgOk I) : rowA W ⟨K, 0, none⟩ 24 = some I ∧ fullA W ⟨K, 0, none⟩ 38 24 = true :=
  ⟨rowA_block h hI.1, fullA_block h hI.1⟩

set_option maxHeartbeats 4000000 in
set_option maxRecDepth 4000 in
theorem ex_known (w : World) : Calls Tryz.prog 7 #[] w fun e w' => e = .returned (.bool true) ∧ Below w.heap.size w w' := by
  obtain ⟨t, z, htl, h0, -, h2, hM⟩ := mk_spec [x0] (by simp [x0])
  have hz : z = 0 := h2 (by decide +kernel) (by decide +kernel) (by simp)
  subst hz
  obtain ⟨hS, -, -⟩ := h0 rfl
  have hax := fun T N => all_x0 hS T N
  have hok : t ≠ [] → (allS t).1 = 0 := fun _ => by rw [hS]
  have H := hid (And.intro hM (And.intro hax hok))
  clear h0 h2 hM hS hax hok
  go_enter Tryz.func7, Tryz.ntmps7
  go_wp2_with fail
  have b0 : Below w.heap.size w (w.alloc (.cells #[.string ⟨#[97]⟩, .int .i64 1, .bool false, .int .u64 16, .int .u64 0, .int .u64 0, .string ⟨#[]⟩] 25)) := (Below.refl _ _).alloc (Nat.le_refl _) _
  refine (H.out.1 _ _ 1 (lit_x0 w)).mono ?_
  rintro e w1 ⟨⟨ta, tc, rfl, htb⟩, hb1⟩
  have H1 := hid (And.intro htb (b0.trans (hb1.mono b0.size)))
  clear htb hb1 b0
  go_wp2_with fail
  have b0 : Below w1.heap.size w1 (w1.alloc (.cells #[.string ⟨#[98]⟩, .int .i64 1, .int .u64 4128, .bool false] 62)) := (Below.refl _ _).alloc (Nat.le_refl _) _
  refine (Nl.ref_make _ _ 1 [s0] (lit_s0 w1) (by simp) (by simp [s0])).mono ?_
  rintro e w2 ⟨v1, v2, rfl, hT, hN, hb2⟩
  rw [make_s0] at hT hN ⊢
  dsimp only at hT hN ⊢
  have hTb := hT.bs (by decide)
  have hNb := hN.bs (by decide)
  obtain ⟨pa, ca, rfl⟩ := hTb.form (n := 16) rfl
  obtain ⟨pb, cb, rfl⟩ := hNb.form (n := 3) rfl
  have hb12 : Below w1.heap.size w1 w2 := b0.trans (hb2.mono b0.size)
  have H2 := hid (And.intro (H1.out.1.below hb12) (And.intro hTb (And.intro hNb (H1.out.2.trans (hb12.mono H1.out.2.size)))))
  clear hT hN hTb hNb hb2 hb12 b0
  go_wp2_with fail
  refine (ex_plain_n w2 ta pa pb t.length 16 3 tc ca cb t T0 N0 H2.out.1 H2.out.2.1 H2.out.2.2.1 (by omega) (by omega) (by omega)).mono ?_
  rintro e w3 ⟨p3, n3, c3, I, rfl, hP3⟩
  have hs3 := hP3.bytes
  have hI := hP3.img
  have hb3 := hP3.below
  have hn3 := hP3.few
  have hno := hid hP3.noB
  clear hP3
  have hIok := hI.ok
  obtain ⟨W3, hW3⟩ : ∃ W, W = w3.alloc (.cells I 38) := ⟨_, rfl⟩
  have b3 : Below w3.heap.size w3 W3 := by rw [hW3]; exact (Below.refl _ _).alloc (Nat.le_refl _) _
  have hK : W3.heap[w3.heap.size]? = some (.cells I 38 (0, 0)) := by rw [hW3]; exact heap_alloc_new w3 _
  obtain ⟨K, hKe⟩ : ∃ K, K = w3.heap.size := ⟨_, rfl⟩
  obtain ⟨hrow, hful⟩ := box_img hK hIok
  have H3 := hid (And.intro (hs3.below b3) (And.intro (hI.below b3) (And.intro hK (And.intro ((H2.out.2.1.below hb3).below b3) (And.intro ((H2.out.2.2.1.below hb3).below b3) ((H2.out.2.2.2.trans (hb3.mono H2.out.2.2.2.size)).trans (b3.mono (Nat.le_trans H2.out.2.2.2.size hb3.size))))))))
  have HK := hid (And.intro hKe (Nat.le_trans H2.out.2.2.2.size hb3.size))
  clear hs3 hI hK hb3 b3
  go_upto_region 4 with fail
  rw [← hW3]
  clear hW3
  go_wp2_with fail
  refine (ex_all _ p3 n3 c3 I t T0 N0 H3.out.1 H3.out.2.1 hn3 H.out.2.2).mono ?_
  rintro e w4 ⟨v4, rfl, hv4, hb4⟩
  rw [H.out.2.1] at hv4 ⊢
  dsimp only at hv4 ⊢
  obtain ⟨q4, c4, rfl⟩ := hv4.form
  have hlt3 := (Array.getElem?_eq_some_iff.1 H3.out.2.2.1).1
  have hK4 := (hb4.block _ hlt3).trans H3.out.2.2.1
  have H4 := hid (And.intro hv4 (And.intro hK4 (And.intro (H3.out.2.2.2.1.below hb4) (And.intro (H3.out.2.2.2.2.1.below hb4) (H3.out.2.2.2.2.2.trans (hb4.mono H3.out.2.2.2.2.2.size))))))
  clear hv4 hb4 hK4 hrow hful hn3
  go_wp2_with fail
  refine (ex_plain_n w4 none pa pb 0 16 3 0 ca cb [] T0 N0 (bs_nil _) H4.out.2.2.1 H4.out.2.2.2.1 (by omega) (by omega) (by omega)).mono ?_
  rintro e w5 ⟨p5, n5, c5, J, rfl, hP5⟩
  have hJok := hP5.img.ok
  have hlt4 := (Array.getElem?_eq_some_iff.1 H4.out.2.1).1
  have hK5 := (hP5.below.block _ hlt4).trans H4.out.2.1
  have hful5 := fullA_block hK5 (n := 24) hIok.1
  have hK6 := setRow_block (I := J) hK5
  have hrow6 := rowA_block hK6 hJok.1
  obtain ⟨hs6, hI6⟩ := hP5.put hlt4 J
  obtain ⟨w6, hw6⟩ : ∃ W, W = w5.setRow w3.heap.size J := ⟨_, rfl⟩
  rw [← hw6] at hK6 hrow6 hs6 hI6
  have hv6 : ES w6 (.slice q4 1 c4) [x0] := by
    refine (H4.out.1.below hP5.below).of_block fun k hk hkl => ?_
    rw [hw6]
    exact setRow_other w5 _ k J (ES_not_img (H4.out.1.below hP5.below) hK5 hIok.1 hno.out hk)
  have hbw6 : Below w.heap.size w w6 := by
    rw [hw6]
    exact Below.setRow (H4.out.2.2.2.2.trans (hP5.below.mono H4.out.2.2.2.2.size)) (by have h1 := HK.out.2; have h2 := HK.out.1; omega) J
  have hn5 := hP5.few
  have H6 := hid (And.intro hv6 (And.intro hs6 (And.intro hI6 hbw6)))
  clear hP5 hs6 hI6 hK6 hv6 hbw6 hK5
  go_upto_region 6 with fail
  rw [← hw6]
  clear hw6 hful5
  go_wp2_with fail
  refine (ex_all _ p5 n5 c5 J [] T0 N0 H6.out.2.1 H6.out.2.2.1 hn5 (fun e => absurd rfl e)).mono ?_
  rintro e w7 ⟨v7, rfl, hv7, hb7⟩
  rw [all_s0] at hv7 ⊢
  dsimp only at hv7 ⊢
  obtain ⟨q7, c7, rfl⟩ := hv7.form
  obtain ⟨g7, o7, rfl, k0, k1, k2, k3, k4, k5, k6⟩ := hv7.at (k := 0) (x := y0) rfl
  obtain ⟨g4, o4, rfl, j0, -⟩ := (H6.out.1.below hb7).at (k := 0) (x := x0) rfl
  rw [Nat.zero_mul, Nat.add_zero] at k0 k1 k2 k3 k4 k5 k6 j0
  have H7 := hid (H6.out.2.2.2.trans (hb7.mono H6.out.2.2.2.size))
  clear hv7 hb7 hrow6
  unfold y0 at k0 k1 k2 k3 k4 k5 k6
  unfold x0 at j0
  dsimp only at k0 k1 k2 k3 k4 k5 k6 j0
  go_wp2_with fail
  go_ret
  exact ⟨rfl, H7.out⟩
end Go.Proofs.YthhjdkcnkdffcaaGreat
