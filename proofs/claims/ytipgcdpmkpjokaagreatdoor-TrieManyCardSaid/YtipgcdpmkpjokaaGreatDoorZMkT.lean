/- Knots in memory with their places, as they are read; a copy of them (slices.Clone). -/
import Derived.Test.YtipgcdpmkpjokaaGreatDoorZMkLa
import Derived.Test.YtipgcdpmkpjokaaGreatDoorZMkS
namespace Go.Proofs.YtipgcdpmkpjokaaGreatDoor
set_option linter.unusedSimpArgs false
set_option linter.unusedVariables false
open Go.RowKit

def KV.cellsP (x : KV) (p : Nat) : List Value := [x.ptr, x.kv, .int .i64 (p : Int)]
def kvsP : List KV → List Nat → List Value
  | x :: L, p :: P => x.cellsP p ++ kvsP L P
  | _, _ => []

theorem kvsP_len : ∀ (L : List KV) (P : List Nat), P.length = L.length → (kvsP L P).length = L.length * 3
  | [], [], _ => rfl
  | x :: L, p :: P, h => by
    have ih := kvsP_len L P (by simpa using h)
    rw [kvsP, List.length_append, ih, List.length_cons]
    show 3 + _ = _
    omega
  | [], _ :: _, h => by simp at h
  | _ :: _, [], h => by simp at h

theorem kvsP_get : ∀ (L : List KV) (P : List Nat) (i : Nat) (x : KV) (p : Nat), L[i]? = some x → P[i]? = some p → ∀ c u, (x.cellsP p)[c]? = some u → (kvsP L P)[i * 3 + c]? = some u
  | [], _, i, x, p, h, _, _, _, _ => by simp at h
  | _ :: _, [], i, x, p, _, h, _, _, _ => by simp at h
  | y :: L, q :: P, i, x, p, hx, hp, c, u, hu => by
    have hc : c < 3 := (List.getElem?_eq_some_iff.1 hu).1
    cases i with
    | zero =>
      simp at hx hp; subst hx; subst hp
      rw [kvsP, List.getElem?_append_left (by show 0 * 3 + c < 3; omega), Nat.zero_mul, Nat.zero_add]; exact hu
    | succ i =>
      have ih := kvsP_get L P i x p (by simpa using hx) (by simpa using hp) c u hu
      rw [kvsP, List.getElem?_append_right (by show 3 ≤ _; omega)]
      rw [show (i + 1) * 3 + c - (y.cellsP q).length = i * 3 + c by show _ - 3 = _; omega]; exact ih

theorem kvsP_set : ∀ (L : List KV) (P : List Nat) (i p : Nat), P.length = L.length → (kvsP L P).set (i * 3 + 2) (.int .i64 (p : Int)) = kvsP L (P.set i p)
  | [], P, i, p, _ => by cases P <;> simp [kvsP]
  | y :: L, [], i, p, h => by simp at h
  | y :: L, q :: P, i, p, h => by
    cases i with
    | zero =>
      rw [List.set_cons_zero, kvsP, kvsP, List.set_append_left _ _ (by show 0 * 3 + 2 < 3; omega)]; rfl
    | succ i =>
      have ih := kvsP_set L P i p (by simpa using h)
      rw [List.set_cons_succ, kvsP, kvsP, List.set_append_right _ _ (by show 3 ≤ _; omega)]
      rw [show (i + 1) * 3 + 2 - (y.cellsP q).length = i * 3 + 2 by show _ - 3 = _; omega, ih]

theorem kvsP_zero : ∀ L : List KV, kvs L = kvsP L (List.replicate L.length 0)
  | [] => rfl
  | x :: L => by
    rw [List.length_cons, List.replicate_succ, kvsP, ← kvsP_zero L]; rfl

/-- Knots with their places, as they are read. -/
structure KnR (W : World) (v : Value) (L : List KV) (P : List Nat) : Prop where
  plen : P.length = L.length
  row : ∃ g cap, v = .slice (some ⟨g, 0, none⟩) L.length cap ∧ L.length ≤ cap ∧ cap ≤ maxLen ∧ ∀ i u, (kvsP L P)[i]? = some u → W.cell? ⟨g, i, none⟩ = some u
  kids : ∀ x ∈ L, KS W x.kv x.kn.kids
  says : ∀ x ∈ L, SP W x.ptr x.kn.says

theorem SP.belowW {W W' : World} {ptr : Value} {s : Option Exp} (h : SP W ptr s) (hb : Below W.heap.size W W') : SP W' ptr s := by
  cases s with
  | none => exact h
  | some x =>
    obtain ⟨b, o, rfl, hc⟩ := h
    exact ⟨b, o, rfl, fun c u hu => by rw [hb.cell (p := ⟨b, o + c, none⟩) (World.block_lt_of_cell? W _ (hc c u hu))]; exact hc c u hu⟩

theorem KnR.below {W W' : World} {v : Value} {L : List KV} {P : List Nat} (h : KnR W v L P) (hb : Below W.heap.size W W') : KnR W' v L P := by
  obtain ⟨g, cap, hv, h1, h2, hc⟩ := h.row
  exact ⟨h.plen, ⟨g, cap, hv, h1, h2, fun i u hu => by rw [hb.cell (p := ⟨g, i, none⟩) (World.block_lt_of_cell? W _ (hc i u hu))]; exact hc i u hu⟩, fun x hx => (h.kids x hx).below hb, fun x hx => (h.says x hx).belowW hb⟩

theorem getD_some {P : List Nat} {i : Nat} (h : i < P.length) : P[i]? = some (P.getD i 0) := by
  rw [List.getD_eq_getElem?_getD, List.getElem?_eq_getElem h]; rfl

theorem KnR.ats {W : World} {v : Value} {L : List KV} {P : List Nat} (h : KnR W v L P) : AtsAt W v L.length P := by
  obtain ⟨g, cap, hv, h1, h2, hc⟩ := h.row
  refine ⟨_, cap, hv, h1, h2, fun _ => ⟨g, 0, rfl, fun i hi => ?_⟩⟩
  rw [Nat.zero_add]
  exact hc _ _ (kvsP_get L P i L[i] _ (List.getElem?_eq_getElem hi) (getD_some (by rw [h.plen]; exact hi)) 2 _ rfl)

/-- What is read of one knot. -/
theorem KnR.at {W : World} {g n cap : Nat} {L : List KV} {P : List Nat} (h : KnR W (.slice (some ⟨g, 0, none⟩) n cap) L P) {i : Nat} {x : KV} (hx : L[i]? = some x) :
    W.cell? ⟨g, i * 3, none⟩ = some x.ptr ∧ W.cell? ⟨g, i * 3 + 1, none⟩ = some x.kv ∧ W.cell? ⟨g, i * 3 + 2, none⟩ = some (.int .i64 ((P.getD i 0 : Nat) : Int)) := by
  obtain ⟨g', cap', hv, h1, h2, hc⟩ := h.row
  cases hv
  have hi : i < P.length := by rw [h.plen]; exact (List.getElem?_eq_some_iff.1 hx).1
  exact ⟨hc _ _ (kvsP_get L P i x _ hx (getD_some hi) 0 _ rfl), hc _ _ (kvsP_get L P i x _ hx (getD_some hi) 1 _ rfl), hc _ _ (kvsP_get L P i x _ hx (getD_some hi) 2 _ rfl)⟩

theorem KnR.of_owns {W : World} {base : Nat} {v : Value} {L : List KV} {P : List Nat} (hp : P.length = L.length) (h : W.ownsRow base 56 3 v L.length (kvsP L P)) (hn : 0 < L.length) (hk : ∀ x ∈ L, KS W x.kv x.kn.kids) (hs : ∀ x ∈ L, SP W x.ptr x.kn.says) : KnR W v L P := by
  obtain ⟨g, cap, rfl, -, -, hc, -⟩ := owns_cell h hn
  have h3 : L.length ≤ cap ∧ cap ≤ maxLen := by
    rcases h.2 with ⟨he, -⟩ | ⟨g', cap', cur, he, h1, h2, h3, h4, -⟩
    · cases he
    · cases he; exact ⟨h3, h4⟩
  exact ⟨hp, ⟨g, cap, rfl, h3.1, h3.2, fun i u hu => hc i u hu⟩, hk, hs⟩

theorem kidCs_len (l : List (List UInt8 × Nat)) : (kidCs l).length = l.length * 2 := by
  induction l with
  | nil => rfl
  | cons r l ih => show ([Value.string (mkS r.1), Value.int .i64 (r.2 : Int)] ++ kidCs l).length = (l.length + 1) * 2; rw [List.length_append, ih]; show 2 + _ = _; omega
theorem kidCs_get : ∀ (l : List (List UInt8 × Nat)) (i : Nat) (r : List UInt8 × Nat), l[i]? = some r → (kidCs l)[i * 2]? = some (.string (mkS r.1)) ∧ (kidCs l)[i * 2 + 1]? = some (.int .i64 (r.2 : Int))
  | [], i, r, h => by simp at h
  | y :: l, i, r, h => by
    cases i with
    | zero => simp at h; subst h; exact ⟨rfl, rfl⟩
    | succ i =>
      obtain ⟨h1, h2⟩ := kidCs_get l i r (by simpa using h)
      rw [show (i + 1) * 2 = i * 2 + 2 by omega, show i * 2 + 2 + 1 = i * 2 + 1 + 2 by omega]
      exact ⟨h1, h2⟩

theorem KS.of_owns {W : World} {base : Nat} {v : Value} {l : List (List UInt8 × Nat)} (h : W.ownsRow base 74 2 v l.length (kidCs l)) (hl : l.length ≤ 140737488355328) : KS W v l := by
  rcases h.2 with ⟨rfl, h1⟩ | ⟨g, cap, cur, rfl, hb, hg, hnc, hcm, hcs, htake⟩
  · obtain rfl : l = [] := List.eq_nil_of_length_eq_zero h1
    exact ⟨none, 0, rfl, Nat.le_refl _, ⟨Nat.zero_le _, Nat.zero_le _⟩, fun h => absurd rfl h⟩
  · refine ⟨_, cap, rfl, hnc, ⟨hcm, hl⟩, fun hne => ⟨g, 0, rfl, fun i r hr => ?_⟩⟩
    have hpos : 0 < l.length := List.length_pos_iff.2 hne
    obtain ⟨g', cap', he, -, -, hc, -⟩ := owns_cell h hpos
    cases he
    obtain ⟨h1, h2⟩ := kidCs_get l i r hr
    rw [Nat.zero_add]
    exact ⟨hc _ _ h1, hc _ _ h2⟩

/-- What tie has made, as it is read. -/
theorem Ks.reads {W : World} {B : Nat} {v : Value} {L : List KV} (h : Ks W B v L) (hn : 0 < L.length) (hl : ∀ x ∈ L, x.kn.kids.length ≤ 140737488355328) : KnR W v L (List.replicate L.length 0) :=
  KnR.of_owns (by simp) (by rw [← kvsP_zero]; exact h.row) hn (fun x hx => KS.of_owns (h.kids x hx) (hl x hx)) (fun x hx => (h.says x hx).1)

theorem mem_kvsP : ∀ (L : List KV) (P : List Nat), (∀ x ∈ L, x.ptr.oneCell' = true ∧ x.kv.oneCell' = true) → ∀ u ∈ kvsP L P, u.oneCell' = true
  | [], P, _, u, hu => by cases P <;> simp [kvsP] at hu
  | x :: L, [], _, u, hu => by simp [kvsP] at hu
  | x :: L, p :: P, h, u, hu => by
    rw [kvsP] at hu
    rcases List.mem_append.1 hu with hu | hu
    · simp [KV.cellsP] at hu
      rcases hu with rfl | rfl | rfl
      · exact (h x (by simp)).1
      · exact (h x (by simp)).2
      · rfl
    · exact mem_kvsP L P (fun y hy => h y (by simp [hy])) u hu

theorem SP.one {W : World} {ptr : Value} {s : Option Exp} (h : SP W ptr s) : ptr.oneCell' = true := by
  cases s with
  | none => rw [show ptr = .pointer none from h]; rfl
  | some x => obtain ⟨b, o, rfl, -⟩ := h; rfl
theorem KS.one {W : World} {v : Value} {l : List (List UInt8 × Nat)} (h : KS W v l) : v.oneCell' = true := by
  obtain ⟨p, cap, rfl, -⟩ := h; rfl

theorem Src.knots {P' : Program} {W : World} {tx e' : TypeId} (hk : P'.underlying tx = some (.slice e')) {v : Value} {L : List KV} {P : List Nat} (h : KnR W v L P) : Src P' 3 tx v L.length (kvsP L P) W := by
  obtain ⟨g, cap, rfl, h1, h2, hc⟩ := h.row
  refine Src.ofSlice W hk _ L.length cap (kvsP L P) (kvsP_len L P h.plen) (fun j u hu => ?_) (mem_kvsP L P fun x hx => ⟨(h.says x hx).one, (h.kids x hx).one⟩)
  have e1 : (⟨g, 0, none⟩ : Addr).add j = ⟨g, j, none⟩ := by unfold Addr.add; split <;> simp_all
  rw [e1]
  exact hc j u hu

theorem own_none (w : World) : (w.alloc (.cells #[] 56)).ownsRow w.heap.size 56 3 (.slice (some ⟨w.heap.size, 0, none⟩) 0 0) 0 [] :=
  ⟨rfl, .inr ⟨w.heap.size, 0, #[], rfl, Nat.le_refl _, heap_alloc_new w _, Nat.le_refl _, Nat.zero_le _, rfl, rfl⟩⟩

set_option maxRecDepth 4000 in
/-- A copy of knots. -/
theorem clone_knots (w : World) (g cap : Nat) (L : List KV) (P : List Nat) (h : KnR w (.slice (some ⟨g, 0, none⟩) L.length cap) L P) (hl : L.length ≤ 9000) (hn : 0 < L.length) :
    Calls Tryz.prog 22 #[.slice (some ⟨g, 0, none⟩) L.length cap] w (fun e w' => ∃ g' cap', e = .returned (.slice (some ⟨g', 0, none⟩) L.length cap') ∧ w'.ownsRow w.heap.size 56 3 (.slice (some ⟨g', 0, none⟩) L.length cap') L.length (kvsP L P) ∧ Below w.heap.size w w') := by
  obtain ⟨ie, hie, hiz, his, hib⟩ := info_parts infoKnot
  have H := hid (And.intro h (And.intro hie (And.intro hiz (And.intro his hib))))
  have hq : ∀ w : World, (binOp .eql 50 (.slice (some ⟨g, 0, none⟩) L.length cap) (.slice none 0 0)).run Tryz.prog w = .ok (.bool false) w := fun w => Lib.run_eql_slice_nil w _ _ _ _ _ 0 0 un_knots
  have HO := hid (own_none w)
  have H0 := hid (h.below ((Below.refl _ _).alloc (Nat.le_refl _) (Obj.cells #[] 56)))
  clear h hie hiz his hib
  go_enter Tryz.func22, Tryz.ntmps22
  go_wp2_with (at_builtin; refine wpList_append_grew _ rfl _ _ _ _ rfl w.heap.size 56 ie _ 3 40 un_knots H.out.2.1 H.out.2.2.1 H.out.2.2.2.1 H.out.2.2.2.2 rfl _ 0 [] rfl HO.out _ L.length (kvsP L P) rfl (Src.knots un_knots H0.out) ?_ ?_ ?_ ?_)
  · exact Nat.le_trans (show 0 + L.length ≤ 9000 by omega) (by decide)
  · omega
  · simp
  intro v1 w1 ho1 hg1
  have hb : Below w.heap.size w w1 := (Grew.under ((Below.refl _ _).alloc (Nat.le_refl _) _) hg1).below (Nat.le_refl _) (fun q hq => (HO.out.lt q hq).1)
  have ho1' : w1.ownsRow w.heap.size 56 3 v1 L.length (kvsP L P) := by simpa using ho1
  obtain ⟨g', cap', hv1, -⟩ := owns_cell ho1' hn
  subst hv1
  have HE := hid (And.intro ho1' hb)
  clear ho1 hb hg1 ho1'
  go_wp2_with fail
  go_ret
  exact ⟨g', cap', by simp, HE.out.1, HE.out.2⟩
end Go.Proofs.YtipgcdpmkpjokaaGreatDoor

namespace Go.Proofs.YtipgcdpmkpjokaaGreatDoor
set_option linter.unusedSimpArgs false
set_option linter.unusedVariables false
open Go.RowKit

def mixP (K : List Knot) (P : List Nat) (i : Nat) : List Nat := (nextP K P).take i ++ P.drop i
theorem mixP_zero (K : List Knot) (P : List Nat) : mixP K P 0 = P := by simp [mixP]
theorem mixP_full {K : List Knot} {P : List Nat} (h : P.length = K.length) : mixP K P K.length = nextP K P := by
  unfold mixP
  rw [List.take_of_length_le (by rw [nextP_len]; exact Nat.le_refl _), List.drop_of_length_le (by omega), List.append_nil]
theorem mixP_len {K : List Knot} {P : List Nat} (h : P.length = K.length) {i : Nat} (hi : i ≤ K.length) : (mixP K P i).length = K.length := by
  unfold mixP
  rw [List.length_append, List.length_take, nextP_len, List.length_drop]; omega
theorem mixP_step {K : List Knot} {P : List Nat} (h : P.length = K.length) {i : Nat} (hi : i < K.length) : (mixP K P i).set i (outB (K.take i) P).length = mixP K P (i + 1) := by
  unfold mixP
  have h1 : ((nextP K P).take i).length = i := by rw [List.length_take, nextP_len]; omega
  rw [List.set_append_right _ _ (by omega), h1, Nat.sub_self, List.take_add_one, nextP_get K P hi, List.append_assoc]
  congr 1
  rw [List.drop_eq_getElem_cons (by omega), List.set_cons_zero]; rfl

/-- Knots as they stand in the call's own row, and what was made. -/
structure Rd (w0 W : World) (B : Nat) (L : List KV) (P : List Nat) (v out : Value) (bs : List UInt8) : Prop where
  bel : Below w0.heap.size w0 W
  row : W.ownsRow B 56 3 v L.length (kvsP L P)
  outb : OB W w0.heap.size 5 out bs
  apart : Apart v out

theorem Rd.next {w0 W W' : World} {B : Nat} {L : List KV} {P : List Nat} {v out : Value} {bs : List UInt8} (h : Rd w0 W B L P v out bs) (hb : Below W.heap.size W W') : Rd w0 W' B L P v out bs :=
  ⟨h.bel.trans (hb.mono h.bel.size), ownsRow_below h.row hb, h.outb.below hb, h.apart⟩

/-- What is known of the knots, from the beginning of the rounds on. -/
structure RdK (w0 : World) (L : List KV) : Prop where
  pos : 0 < L.length
  few : L.length ≤ 9000
  kids : ∀ x ∈ L, KS w0 x.kv x.kn.kids
  says : ∀ x ∈ L, SP w0 x.ptr x.kn.says

theorem Rd.reads {w0 W : World} {B : Nat} {L : List KV} {P : List Nat} {v out : Value} {bs : List UInt8} (h : Rd w0 W B L P v out bs) (hk : RdK w0 L) (hp : P.length = L.length) : KnR W v L P :=
  KnR.of_owns hp h.row hk.pos (fun x hx => (hk.kids x hx).below h.bel) (fun x hx => (hk.says x hx).belowW h.bel)

theorem OB.keptX {W W' : World} {base : Nat} {e : TypeId} {v : Value} {l : List UInt8} (h : OB W base e v l) {k : Nat} (hg : W.grownBy W' (some k)) (hv : v.ownBlock ≠ some k) : OB W' base e v l :=
  World.ownsRow.kept h hg (.inr hv)

theorem Rd.set {w0 W : World} {B : Nat} {L : List KV} {P : List Nat} {v out : Value} {bs : List UInt8} (h : Rd w0 W B L P v out bs) {g : Nat} (i : Nat) (u : Value) (hg : w0.heap.size ≤ g) (h1 : v.ownBlock ≠ some g) (h2 : out.ownBlock ≠ some g) : Rd w0 (W.setCell ⟨g, i, none⟩ u) B L P v out bs :=
  ⟨h.bel.trans ⟨rfl, rfl, rfl, by simp [World.setCell], fun k hk => setC_other W g i k u (by omega)⟩, World.ownsRow.kept h.row (setC_grown W g i u) (.inr h1), h.outb.keptX (setC_grown W g i u) h2, h.apart⟩

theorem Rd.app {w0 W W' : World} {B : Nat} {L : List KV} {P : List Nat} {v out out' : Value} {bs bs' : List UInt8} (h : Rd w0 W B L P v out bs) (hg : Grew W W' out out') (ho : OB W' w0.heap.size 5 out' bs') : Rd w0 W' B L P v out' bs' :=
  ⟨h.bel.trans (hg.below h.bel.size h.outb.high), hg.own h.row h.apart, ho, hg.apart h.row h.apart⟩

/-- What was made is thrown away, the memory kept. -/
theorem OB.empty {w : World} {base : Nat} {e : TypeId} {a : Option Addr} {n c : Nat} {l : List UInt8} (h : OB w base e (.slice a n c) l) : OB w base e (.slice a 0 c) [] := by
  rcases h.2 with ⟨he, h1⟩ | ⟨g, c', cur, he, h1, h2, h3, h4, h5, h6⟩
  · cases he
    exact World.ownsRow_nil _ _ _ _
  · cases he
    exact ⟨rfl, .inr ⟨g, c, cur, rfl, h1, h2, Nat.zero_le _, h4, h5, rfl⟩⟩

theorem Rd.clear {w0 W : World} {B : Nat} {L : List KV} {P : List Nat} {v : Value} {a : Option Addr} {n c : Nat} {bs : List UInt8} (h : Rd w0 W B L P v (.slice a n c) bs) : Rd w0 W B L P v (.slice a 0 c) [] :=
  ⟨h.bel, h.row, h.outb.empty, fun k hk e => h.apart k hk (by cases a <;> exact e)⟩

theorem iterP_small (K : List Knot) : ∀ r i, (iterP K r).getD i 0 ≤ capB K
  | 0, i => by
    unfold iterP
    rw [List.getD_eq_getElem?_getD, List.getElem?_replicate]
    split <;> simp
  | r + 1, i => by
    show (nextP K (iterP K r)).getD i 0 ≤ _
    by_cases hi : i < (nextP K (iterP K r)).length
    · have h1 : (nextP K (iterP K r))[i]? = some ((nextP K (iterP K r)).getD i 0) := getD_some hi
      have := nextP_lt K (iterP K r) _ (List.mem_of_getElem? h1)
      omega
    · rw [List.getD_eq_getElem?_getD, List.getElem?_eq_none (by omega)]; simp

theorem capK_le {K : List Knot} {k : Knot} (h : k ∈ K) : capK k ≤ capB K := by
  unfold capB
  induction K with
  | nil => cases h
  | cons x K ih =>
    rw [List.map_cons, List.sum_cons]
    rcases List.mem_cons.1 h with rfl | h
    · omega
    · have := ih h; omega

/-- A round: the first i knots are laid; where they stand is in the other row. -/
structure RdN (w0 wb W : World) (B : Nat) (L : List KV) (K : List Knot) (P : List Nat) (v v7 out : Value) (i : Nat) : Prop where
  rd : Rd w0 W B L P v out (outB (K.take i) P)
  row7 : W.ownsRow wb.heap.size 56 3 v7 L.length (kvsP L (mixP K P i))
  ap7 : Apart v7 out
  ne : Apart v v7

theorem RdN.next {w0 wb W W' : World} {B : Nat} {L : List KV} {K : List Knot} {P : List Nat} {v v7 out : Value} {i : Nat} (h : RdN w0 wb W B L K P v v7 out i) (hb : Below W.heap.size W W') : RdN w0 wb W' B L K P v v7 out i :=
  ⟨h.rd.next hb, ownsRow_below h.row7 hb, h.ap7, h.ne⟩

/-- A knot's place is noted, then its bytes are laid. -/
structure RdM (w0 wb W : World) (B : Nat) (L : List KV) (K : List Knot) (P : List Nat) (v v7 out : Value) (i : Nat) : Prop where
  rd : Rd w0 W B L P v out (outB (K.take i) P)
  row7 : W.ownsRow wb.heap.size 56 3 v7 L.length (kvsP L (mixP K P (i + 1)))
  ap7 : Apart v7 out
  ne : Apart v v7

theorem RdM.next {w0 wb W W' : World} {B : Nat} {L : List KV} {K : List Knot} {P : List Nat} {v v7 out : Value} {i : Nat} (h : RdM w0 wb W B L K P v v7 out i) (hb : Below W.heap.size W W') : RdM w0 wb W' B L K P v v7 out i :=
  ⟨h.rd.next hb, ownsRow_below h.row7 hb, h.ap7, h.ne⟩

theorem RdN.set {w0 wb W : World} {B : Nat} {L : List KV} {K : List Knot} {P : List Nat} {v out : Value} {g n c i : Nat} (h : RdN w0 wb W B L K P v (.slice (some ⟨g, 0, none⟩) n c) out i) (hw : w0.heap.size ≤ wb.heap.size) (hp : P.length = K.length) (hl : L.length = K.length) (hi : i < K.length) (hn : n = L.length) :
    RdM w0 wb (W.setCell ⟨g, i * 3 + 2, none⟩ (.int .i64 (((outB (K.take i) P).length : Nat) : Int))) B L K P v (.slice (some ⟨g, 0, none⟩) n c) out i := by
  subst hn
  have hg := (h.row7.lt g rfl).1
  refine ⟨h.rd.set _ _ (by omega) (fun e => h.ne g e rfl) (fun e => h.ap7.symm g e rfl), ?_, h.ap7, h.ne⟩
  have h1 := owns_set h.row7 (i * 3 + 2) (.int .i64 (((outB (K.take i) P).length : Nat) : Int))
  rw [kvsP_set L _ i _ (by rw [mixP_len hp (by omega), hl]), mixP_step hp hi] at h1
  exact h1

theorem RdM.app {w0 wb W W' : World} {B : Nat} {L : List KV} {K : List Knot} {P : List Nat} {v v7 out out' : Value} {i : Nat} {k : Knot} (h : RdM w0 wb W B L K P v v7 out i) (hk : K[i]? = some k) (hg : Grew W W' out out') (ho : OB W' w0.heap.size 5 out' (outB (K.take i) P ++ knotB P k)) : RdN w0 wb W' B L K P v v7 out' (i + 1) :=
  ⟨h.rd.app hg (by rw [outB_take hk]; exact ho), hg.own h.row7 h.ap7, hg.apart h.row7 h.ap7, h.ne⟩
end Go.Proofs.YtipgcdpmkpjokaaGreatDoor
