/- What pieces have between two addresses. -/
import Derived.Test.YtjfkgdfmkofbmaaGreatDoorZBpF
import Derived.Test.YtjfkgdfmkofbmaaGreatDoorShelfB
namespace Go.Proofs.YtjfkgdfmkofbmaaGreatDoor
set_option linter.unusedSimpArgs false
set_option linter.unusedVariables false
open Go.RowKit

theorem find_at {α : Type} (P : α → Bool) : ∀ (l : List α) (i : Nat) (x : α), l[i]? = some x → (∀ k y, k < i → l[k]? = some y → P y = false) → P x = true → l.find? P = some x
  | [], i, x, h, _, _ => by simp at h
  | a :: l, 0, x, h, _, hp => by simp at h; subst h; rw [List.find?_cons, hp]
  | a :: l, i + 1, x, h, hn, hp => by
    rw [List.find?_cons, hn 0 a (by omega) rfl]
    exact find_at P l i x (by simpa using h) (fun k y hk hy => hn (k + 1) y (by omega) (by simpa using hy)) hp

/-- Off the search: what is cut. -/
theorem cut_of {L : List PzV} (hs : Srt 0 (L.map PzV.m)) {f t i : Nat} (hlo : ∀ k x, k < i → L[k]? = some x → x.at_ + x.bytes.length ≤ f) (hhi : ∀ k x, i ≤ k → L[k]? = some x → f < x.at_ + x.bytes.length) :
    (∀ x, L[i]? = some x → x.at_ ≤ f → cutZ (L.map PzV.m) f t = ((x.bytes.drop (f - x.at_)).take (t - f), x.prot)) ∧ ((∀ x, L[i]? = some x → ¬ x.at_ ≤ f) → cutZ (L.map PzV.m) f t = ([], 0)) := by
  constructor
  · intro x hx hxf
    have key : (L.map PzV.m).find? (fun p => decide (p.at_ ≤ f) && decide (f < p.end_)) = some x.m := by
      refine find_at _ (L.map PzV.m) i x.m (by rw [List.getElem?_map, hx]; rfl) (fun k y hk hy => ?_) ?_
      · rw [List.getElem?_map] at hy
        obtain ⟨z, hz, rfl⟩ := Option.map_eq_some_iff.1 hy
        have := hlo k z hk hz
        have e : z.m.end_ = z.at_ + z.bytes.length := rfl
        rw [e, decide_eq_false (by omega : ¬ f < z.at_ + z.bytes.length), Bool.and_false]
      · have := hhi i x (Nat.le_refl _) hx
        have e : x.m.end_ = x.at_ + x.bytes.length := rfl
        have e2 : x.m.at_ = x.at_ := rfl
        rw [e, e2, decide_eq_true this, decide_eq_true hxf]; rfl
    unfold cutZ
    rw [key]
    rfl
  · intro hn
    refine cut_none (fun p hp ⟨h1, h2⟩ => ?_)
    obtain ⟨x, hx, rfl⟩ := List.mem_map.1 hp
    obtain ⟨k, hk⟩ := List.getElem?_of_mem hx
    have e : x.m.end_ = x.at_ + x.bytes.length := rfl
    have e2 : x.m.at_ = x.at_ := rfl
    rw [e] at h2
    rw [e2] at h1
    rcases Nat.lt_trichotomy k i with h | h | h
    · have := hlo k x h hk; omega
    · subst h; exact hn x hk h1
    · obtain ⟨y, hy⟩ : ∃ y, L[i]? = some y := ⟨_, List.getElem?_eq_getElem (by have := (List.getElem?_eq_some_iff.1 hk).1; omega)⟩
      have h3 := hs.rise h hy hk
      have := hn y hy
      have := hhi i y (Nat.le_refl _) hy
      omega

theorem sz_u8B (w : World) : (sizeOf (Tryz.prog.elem 72)).run Tryz.prog w = .ok 1 w := by kernel_rfl
def CutEnd (K : Nat → Prop) (w : World) (l : List Pz) (f t : Nat) (e : Ending) (w' : World) : Prop :=
  ∃ p c, e = .returned (.tuple #[.slice p (cutZ l f t).1.length c, .int .i64 (cutZ l f t).2]) ∧ BS w' (.slice p (cutZ l f t).1.length c) (cutZ l f t).1 ∧ Below w.heap.size w w' ∧ ∀ k, inBlk (.slice p (cutZ l f t).1.length c) k → K k

theorem below_drewNP {B : Nat} {w w' : World} (h : Below B w w') (q : Nat) : Below B w (w'.drewN q) := ⟨h.os, h.tape, h.output, h.size, h.block⟩
theorem cut_drewN {K : Nat → Prop} {w w1 : World} {l : List Pz} {f t : Nat} {e : Ending} (h : CutEnd K w l f t e w1) (q : Nat) : CutEnd K w l f t e (w1.drewN q) := by
  obtain ⟨p, c, h1, h2, h3, h4⟩ := h
  exact ⟨p, c, h1, h2, below_drewNP h3 q, h4⟩

set_option maxHeartbeats 2000000 in
set_option maxRecDepth 8000 in
theorem bd_cut (K : Nat → Prop) (w : World) (v : Value) (L : List PzV) (hK : ∀ x ∈ L, ∀ k, inBlk x.sl k → K k) (h : PzsAt w v L) (hs : Srt 0 (L.map PzV.m)) (hlen : L.length ≤ 100000) (f t : Nat) (hft : f < t) (hno : NoIn (L.map PzV.m) f t) (ht : t < 2 ^ 63) :
    Calls Tryz.prog 46 #[v, .int .u64 (f : Int), .int .u64 (t : Int)] w (CutEnd K w (L.map PzV.m) f t) := by
  obtain ⟨a, cap, rfl⟩ := RowsAt.form h.rows
  have H := hid (And.intro h (And.intro hs (And.intro hlen (And.intro hft (And.intro hno ht)))))
  have HK := hid hK
  have hbs := hid (bd_bs w _ L h hs hlen f)
  clear h hs hlen hft hno ht hK
  go_enter Tryz.func46, Tryz.ntmps46
  go_wp2_with fail
  refine hbs.out.mono ?_
  rintro e w1 ⟨i, hi, hlo, hhi, rfl, hb⟩
  obtain ⟨hc1, hc2⟩ := cut_of (t := t) H.out.2.1 hlo hhi
  by_cases hx : ∃ x, L[i]? = some x ∧ x.at_ ≤ f
  · obtain ⟨x, hx, hxf⟩ := hx
    have hcz := hc1 x hx hxf
    have hxm := List.mem_of_getElem? hx
    have hlt := (List.getElem?_eq_some_iff.1 hx).1
    have hxo := H.out.2.1.at_le x.m (List.mem_map_of_mem hxm)
    have hfx := hhi i x (Nat.le_refl _) hx
    have hte : t ≤ x.at_ + x.bytes.length := by
      have h1 := H.out.2.2.2.2.1 x.m.end_ (List.mem_flatMap.2 ⟨x.m, List.mem_map_of_mem hxm, by simp⟩)
      have e : x.m.end_ = x.at_ + x.bytes.length := rfl
      rw [e] at h1
      omega
    obtain ⟨g, off, rfl, y0, y1, y2⟩ := (H.out.1.below hb).cell hx
    have hbx := (H.out.1.below hb).bytes x hxm
    have hft := H.out.2.2.2.1
    have hcap : x.bytes.length ≤ x.cap := by obtain ⟨_, _, e, h1, _⟩ := hbx; cases e; exact h1
    have hsub := fun (w : World) => run_sub2 (P := Tryz.prog) (w := w) (t := 72) x.p x.bytes.length x.cap un_bsB (sz_u8B w) .u64 .u64 ((f - x.at_ : Nat) : Int) ((t - x.at_ : Nat) : Int) (by omega) (by omega) (by omega)
    simp only [Int.toNat_natCast] at hsub
    have hbsub := sub_bs (l := x.bytes) hbx (lo := f - x.at_) (hi := t - x.at_) (m := x.cap) (by omega) (by omega) (by omega) (Nat.le_refl _)
    have hn : t - x.at_ - (f - x.at_) = t - f := by omega
    rw [hn] at hsub hbsub
    have hblk : ∀ k, inBlk (.slice (subA x.p (f - x.at_) x.cap) (t - f) (x.cap - (f - x.at_))) k → K k := fun k hk => HK.out x hxm k (sub_blk (n := x.bytes.length) (cap := x.cap) (lo := f - x.at_) (hi := t - x.at_) (m := x.cap) (by omega) (by omega) (by rw [hn]; exact hk))
    have hl : ((x.bytes.drop (f - x.at_)).take (t - f)).length = t - f := by rw [List.length_take, List.length_drop]; omega
    have b1 : (0 : Int) ≤ (i : Int) := by omega
    have b2 : (i : Int) < (L.length : Int) := by omega
    have w1' : IntKind.u64.wrap ((f : Int) - (x.at_ : Int)) = ((f - x.at_ : Nat) : Int) := (IntWalk.u64_in _ (by have := H.out.2.2.2.2.2; omega)).trans (by omega)
    have w2' : IntKind.u64.wrap ((t : Int) - (x.at_ : Int)) = ((t - x.at_ : Nat) : Int) := (IntWalk.u64_in _ (by have := H.out.2.2.2.2.2; omega)).trans (by omega)
    have hd : hasAt L i f = true := by unfold hasAt; rw [hx]; exact decide_eq_true hxf
    obtain ⟨q, hq⟩ : ∃ q, q = subA x.p (f - x.at_) x.cap := ⟨_, rfl⟩
    obtain ⟨c', hc'⟩ : ∃ c, c = x.cap - (f - x.at_) := ⟨_, rfl⟩
    rw [← hq, ← hc'] at hsub hbsub hblk
    have hf : CutEnd K w (L.map PzV.m) f t (.returned (.tuple #[.slice q (t - f) c', .int .i64 x.prot])) w1 := by
      refine ⟨q, c', ?_, ?_, hb, ?_⟩
      · rw [hcz, hl]
      · rw [hcz, hl]; exact hbsub
      · rw [hcz, hl]; exact hblk
    rw [hd]
    have Hf := hid hf
    have HY := hid (And.intro y0 (And.intro y1 y2))
    clear hcz hd hf hc1 hc2 hlo hhi hb hi hbx hbsub hblk hl hxo hfx hte hft hcap hn hq hc' hx hxm hlt
    go_wp2_with fail
    go_upto_region 4 with fail
    go_quiet (fail)
    go_wp2_with fail
    refine bodyPost_ret (v := .tuple #[.slice q ((t - f : Nat)) c', .int .i64 x.prot]) (by simp [results, Tryz.results46, go_sem]) rfl ?_
    exact cut_drewN Hf.out _
  · have hcz := hc2 (fun x h1 h2 => hx ⟨x, h1, h2⟩)
    have hd : hasAt L i f = false := by
      unfold hasAt
      cases e : L[i]? with
      | none => rfl
      | some x => exact decide_eq_false (fun h => hx ⟨x, e, h⟩)
    have hf : CutEnd K w (L.map PzV.m) f t (.returned (.tuple #[.slice none 0 0, .int .i64 0])) w1 := by
      refine ⟨none, 0, ?_, ?_, hb, fun k hk => hk.elim⟩
      · rw [hcz]; rfl
      · rw [hcz]; exact ⟨none, 0, rfl, Nat.le_refl _, ⟨Nat.zero_le _, by simp⟩, fun h => absurd rfl h⟩
    rw [hd]
    have Hf := hid hf
    clear hcz hd hf hx hc1 hc2 hlo hhi hb hi
    go_wp2_with fail
    refine bodyPost_ret (v := .tuple #[.slice none 0 0, .int .i64 0]) (by simp [results, Tryz.results46, go_sem]) rfl ?_
    exact Hf.out
end Go.Proofs.YtjfkgdfmkofbmaaGreatDoor

namespace Go.Proofs.YtjfkgdfmkofbmaaGreatDoor
set_option linter.unusedSimpArgs false
set_option linter.unusedVariables false
open Go.RowKit

theorem bd_grow (w : World) (n : Nat) (hn : n ≤ 1000000) :
    Calls Tryz.prog 55 #[.slice none 0 0, .int .i64 (n : Int)] w fun e w' => ∃ v, e = .returned v ∧ w'.ownsRow w.heap.size 74 3 v 0 [] ∧ Below w.heap.size w w' := by
  rcases Nat.eq_zero_or_pos n with rfl | hp
  · refine (Any8.slices_Grow_room Tryz.growP none 0 0 0 w (Nat.le_refl _) (by omega) (by omega) (Nat.le_refl _)).mono ?_
    rintro e w' ⟨rfl, rfl⟩
    exact ⟨_, rfl, World.ownsRow_nil _ _ _ _, Below.refl _ _⟩
  · obtain ⟨ip, hip, hpz, hps, hpb⟩ := info_parts infoP1
    refine (Any8.slices_Grow_grow Tryz.growP ip (.agg #[.int .u64 0, .int .i64 0, .slice none 0 0]) hip hpz (by rw [hps]; decide) none 0 0 n [] w (Nat.le_refl _) (by omega) (by rw [hpb]; omega) (by omega) (by simp) (fun _ => rfl) (by simp)).mono ?_
    rintro e w' ⟨rfl, rfl⟩
    obtain ⟨c, hc⟩ : ∃ c, c = grownCap w (0 + n) 0 74 := ⟨_, rfl⟩
    have h1 := grownCap_ge w (0 + n) 0 74
    have h2 := grownCap_le_maxLen w (0 + n) 0 74 (by simp only [maxLen]; omega)
    refine ⟨_, rfl, ⟨rfl, .inr ⟨w.heap.size, _, _, rfl, Nat.le_refl _, heap_alloc_new w.drew _, Nat.zero_le _, h2, ?_, by simp⟩⟩, ?_⟩
    · have e3 : (Value.agg #[.int .u64 0, .int .i64 0, .slice none 0 0]).cells.size = 3 := rfl
      show _ = (grownCap w (0 + n) 0 74) * 3
      rw [Array.size_append, Array.size_append, size_zeroCells, size_zeroCells, e3]
      show 0 + (0 + n - 0) * 3 + (grownCap w (0 + n) 0 74 - (0 + n)) * 3 = _
      omega
    · exact (below_drewP w).trans (((Below.refl _ _).alloc (Nat.le_refl _) _).mono (Nat.le_refl _))

theorem flat_get (l : List PzV) (i : Nat) (x : PzV) (hx : l[i]? = some x) (c : Nat) (u : Value) (hu : x.cells[c]? = some u) : (l.flatMap PzV.cells)[i * 3 + c]? = some u := by
  induction l generalizing i with
  | nil => simp at hx
  | cons a t ih =>
    rw [List.flatMap_cons]
    cases i with
    | zero =>
      cases hx
      rw [Nat.zero_mul, Nat.zero_add, List.getElem?_append_left (List.getElem?_eq_some_iff.1 hu).1]
      exact hu
    | succ j =>
      rw [List.getElem?_append_right (by rw [pzLen, Nat.add_mul]; omega), pzLen, show (j + 1) * 3 + c - 3 = j * 3 + c by omega]
      exact ih j (by simpa using hx)
theorem flat_mem (l : List PzV) : ∀ u ∈ l.flatMap PzV.cells, u.oneCell' = true := fun u hu => by
  obtain ⟨x, -, hx⟩ := List.mem_flatMap.1 hu
  simp only [PzV.cells, List.mem_cons, List.not_mem_nil, or_false] at hx
  rcases hx with rfl | rfl | rfl <;> rfl
/-- What is appended: pieces that are read. -/
theorem src_pieces {W : World} {v : Value} {L : List PzV} (h : RowsAt PzV.cells 3 W v L) : Src Tryz.prog 3 24 v L.length (L.flatMap PzV.cells) W := by
  obtain ⟨p, cap, rfl, h1, h2, h3⟩ := h
  have hk : Tryz.prog.underlying 24 = some (.slice 74) := Tryz.underlying24
  cases p with
  | none =>
    have hl : L = [] := by
      refine Decidable.byContradiction fun hne => ?_
      obtain ⟨b, off, e, -⟩ := h3 hne
      cases e
    subst hl
    exact Src.ofNil W hk cap
  | some a =>
    refine Src.ofSlice W hk a L.length cap _ (by rw [flat3]) (fun j u hu => ?_) (flat_mem L)
    have hj := (List.getElem?_eq_some_iff.1 hu).1
    rw [flat3] at hj
    obtain ⟨b, off, e, hc⟩ := h3 (by intro e; rw [e] at hj; simp at hj)
    cases e
    have e1 : (⟨b, off, none⟩ : Addr).add j = ⟨b, off + j, none⟩ := by unfold Addr.add; split <;> simp_all
    obtain ⟨x, hx⟩ : ∃ x, L[j / 3]? = some x := ⟨_, List.getElem?_eq_getElem (by omega)⟩
    obtain ⟨u', hu'⟩ : ∃ u', x.cells[j % 3]? = some u' := ⟨_, List.getElem?_eq_getElem (by rw [pzLen]; omega)⟩
    have g := flat_get L (j / 3) x hx (j % 3) u' hu'
    have ej : j / 3 * 3 + j % 3 = j := by omega
    rw [ej, hu] at g
    cases g
    have := hc (j / 3) x hx (j % 3) u hu'
    rw [e1, show off + j = off + j / 3 * 3 + j % 3 by omega]
    exact this
/-- Pieces of the call's own, read. -/
theorem rows_pz {W : World} {B : Nat} {v : Value} {L : List PzV} (h : W.ownsRow B 74 3 v L.length (L.flatMap PzV.cells)) : RowsAt PzV.cells 3 W v L := by
  obtain ⟨hlen, ⟨rfl, h0⟩ | ⟨g, cap, cur, rfl, -, hb, h1, h2, h3, h4⟩⟩ := h
  · rw [List.length_eq_zero_iff.1 h0]
    exact RowsAt.nil W
  · refine ⟨some ⟨g, 0, none⟩, cap, rfl, h1, h2, fun _ => ⟨g, 0, rfl, fun i x hx c u hu => ?_⟩⟩
    have hu' := flat_get L i x hx c u hu
    rw [← h4, List.getElem?_take] at hu'
    split at hu'
    · simp only [World.cell?, hb, Nat.zero_add]; simpa using hu'
    · cases hu'

set_option maxHeartbeats 2000000 in
set_option maxRecDepth 20000 in
theorem bd_concat (w : World) (r : Nat) (va vb : Value) (A B : List PzV) (hr : w.heap[r]? = some (.cells #[va, vb] 24 (0, 0))) (ha : RowsAt PzV.cells 3 w va A) (hb : RowsAt PzV.cells 3 w vb B) (hla : A.length ≤ 20000) (hlb : B.length ≤ 20000) :
    Calls Tryz.prog 42 #[.slice (some ⟨r, 0, none⟩) 2 2] w fun e w' => ∃ v, e = .returned v ∧ w'.ownsRow w.heap.size 74 3 v (A ++ B).length ((A ++ B).flatMap PzV.cells) ∧ Below w.heap.size w w' := by
  obtain ⟨ip, hip, hpz, hps, hpb⟩ := info_parts infoP1
  obtain ⟨pa, ca, rfl⟩ := RowsAt.form ha
  obtain ⟨pb, cb, rfl⟩ := RowsAt.form hb
  have x0 := cell_of_row _ _ 0 _ _ _ hr
  have x1 := cell_of_row _ _ 1 _ _ _ hr
  have H := hid (And.intro hr (And.intro ha (And.intro hb (And.intro hip (And.intro hpz (And.intro hps hpb))))))
  have hs1 : IntKind.i64.wrap (A.length : Int) = (A.length : Int) := IntWalk.i64_in _ (by omega)
  have hs2 : IntKind.i64.wrap ((A.length : Int) + (B.length : Int)) = ((A.length + B.length : Nat) : Int) := (IntWalk.i64_in _ (by omega)).trans (by omega)
  have hn1 : decide ((A.length : Int) < 0) = false := decide_eq_false (by omega)
  have hn2 : decide (((A.length + B.length : Nat) : Int) < 0) = false := decide_eq_false (by omega)
  have hn3 : decide (((A.length : Int) + (B.length : Int)) < 0) = false := decide_eq_false (by omega)
  clear hr ha hb hip hpz hps hpb
  go_enter Tryz.func42, Tryz.ntmps42
  go_wp2_with fail
  go_loopw [3, 11] (fun vs vi wr => ∃ k : Nat, k ≤ 2 ∧ vi = .int .i64 (k : Int) ∧ wr = w ∧ vs = .int .i64 (if k = 0 then 0 else if k = 1 then (A.length : Int) else ((A.length + B.length : Nat) : Int))) (fun _ vi _ => 2 - (intOf vi).toNat)
  case atStart => exact ⟨0, by omega, rfl, rfl, rfl⟩
  case round =>
    obtain ⟨k, hk, rfl, rfl, rfl⟩ := hrel
    match k, hk with
    | 0, _ =>
      go_wp2_with fail
      exact ⟨⟨1, by omega, by simp, by simp, by simp⟩, by simp [intOf]⟩
    | 1, _ =>
      go_wp2_with fail
      exact ⟨⟨2, by omega, by simp, by simp, by simp⟩, by simp [intOf]⟩
    | 2, _ =>
      go_wp2_with fail
      refine (bd_grow wr (A.length + B.length) (by omega)).mono ?_
      rintro e w2 ⟨v2, rfl, ho2, hb2⟩
      have hcl := fun (i : Nat) (u : Value) (h : wr.cell? ⟨r, i, none⟩ = some u) => below_cell' hb2 (World.block_lt_of_cell? wr _ h) h
      have H2 := hid (And.intro ho2 hb2)
      have HX := hid (And.intro x0 x1)
      clear ho2 hb2 x0 x1 hcl
      go_wp2_with fail
      go_loopw [6, 27] (fun vo vi wx => ∃ k : Nat, k ≤ 2 ∧ vi = .int .i64 (k : Int) ∧ Below wr.heap.size wr wx ∧ ∃ X : List PzV, X = (if k = 0 then [] else if k = 1 then A else A ++ B) ∧ wx.ownsRow wr.heap.size 74 3 vo X.length (X.flatMap PzV.cells)) (fun _ vi _ => 2 - (intOf vi).toNat)
      case atStart => exact ⟨0, by omega, rfl, H2.out.2, [], rfl, H2.out.1⟩
      case round =>
        rename World => wx
        obtain ⟨k, hk, rfl, hbx, X, hX, hox⟩ := hrel
        have hy := HX.out
        have HS := hid (And.intro hs1 (And.intro hs2 (And.intro hn1 (And.intro hn2 hn3))))
        clear hs1 hs2 hn1 hn2 hn3
        have y0 := below_cell' hbx (World.block_lt_of_cell? wr _ hy.1) hy.1
        have y1 := below_cell' hbx (World.block_lt_of_cell? wr _ hy.2) hy.2
        match k, hk with
        | 0, _ =>
          have hX : X = [] := by simpa using hX
          subst hX
          have HO := hid (And.intro hox (And.intro hbx (src_pieces (RowsAt.below (RowsAt.below H.out.2.1 (Below.refl _ _)) hbx))))
          clear hox hbx hy
          go_wp2_with (at_builtin; refine wpList_append_grew _ rfl _ _ _ _ rfl wr.heap.size 74 ip _ 3 40 Tryz.underlying24 H.out.2.2.2.1 H.out.2.2.2.2.1 H.out.2.2.2.2.2.1 H.out.2.2.2.2.2.2 rfl _ 0 [] rfl HO.out.1 _ A.length (A.flatMap PzV.cells) rfl HO.out.2.2 (Nat.le_trans (show 0 + A.length ≤ 20000 by omega) (by decide)) (by omega) HO.out.2.1.size ?_)
          intro v' w' ho hg
          have hb' := HO.out.2.1.trans ((hg.below (B := wr.heap.size) HO.out.2.1.size (fun q hq => (World.ownsRow.lt HO.out.1 q hq).1)))
          have H4 := hid (And.intro ho hb')
          clear ho hg hb' y0 y1
          go_wp2_with fail
          exact ⟨⟨1, by omega, by simp, H4.out.2, A, by simp, by have := H4.out.1; simpa using this⟩, by simp [intOf]⟩
        | 1, _ =>
          have hX : X = A := by simpa using hX
          have hXl : X.length ≤ 20000 := by rw [hX]; exact hla
          have HXe := hid hX
          clear hX
          have HO := hid (And.intro hox (And.intro hbx (src_pieces (RowsAt.below (RowsAt.below H.out.2.2.1 (Below.refl _ _)) hbx))))
          clear hox hbx hy
          go_wp2_with (at_builtin; refine wpList_append_grew _ rfl _ _ _ _ rfl wr.heap.size 74 ip _ 3 40 Tryz.underlying24 H.out.2.2.2.1 H.out.2.2.2.2.1 H.out.2.2.2.2.2.1 H.out.2.2.2.2.2.2 rfl _ X.length _ rfl HO.out.1 _ B.length (B.flatMap PzV.cells) rfl HO.out.2.2 (Nat.le_trans (show X.length + B.length ≤ 40000 by omega) (by decide)) (by omega) HO.out.2.1.size ?_)
          intro v' w' ho hg
          have hb' := HO.out.2.1.trans ((hg.below (B := wr.heap.size) HO.out.2.1.size (fun q hq => (World.ownsRow.lt HO.out.1 q hq).1)))
          have H4 := hid (And.intro ho hb')
          clear ho hg hb' y0 y1
          go_wp2_with fail
          exact ⟨⟨2, by omega, by simp, H4.out.2, A ++ B, by simp, by have := H4.out.1; rw [List.length_append, List.flatMap_append]; exact this⟩, by simp [intOf]⟩
        | 2, _ =>
          have hX : X = A ++ B := by simpa using hX
          subst hX
          have HO := hid (And.intro hox hbx)
          clear hox hbx hy y0 y1
          go_wp2_with fail
          go_ret
          exact ⟨_, rfl, HO.out.1, HO.out.2⟩
end Go.Proofs.YtjfkgdfmkofbmaaGreatDoor
