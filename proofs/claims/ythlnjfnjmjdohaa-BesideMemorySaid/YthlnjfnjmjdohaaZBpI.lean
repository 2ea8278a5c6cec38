/- What pieces have between two addresses. -/
import Derived.Test.YthlnjfnjmjdohaaZBpF
namespace Go.Proofs.Ythlnjfnjmjdohaa
set_option linter.unusedSimpArgs false
set_option linter.unusedVariables false
open Go.RowKit

theorem find_at {α : Type} (P : α → Bool) : ∀ (l : List α) (i : Nat) (x : α), l[i]? = some x → (∀ k y, k < i → l[k]? = some y → P y = false) → P x = true → l.find? P = some x
  | [], i, x, h, _, _ => by simp at h
  | a :: l, 0, x, h, _, hp => by simp at h; subst h; rw [List.find?_cons, hp]
  | a :: l, i + 1, x, h, hn, hp => by
    rw [List.find?_cons, hn 0 a (by omega) rfl]
    exact find_at P l i x (by simpa using h) (fun k y hk hy => hn (k + 1) y (by omega) (by simpa using hy)) hp

/-- Off the search: what is cut. -/
theorem cut_of {L : List PzV} (hs : Srt 0 (L.map PzV.m)) {f t i : Nat} (hlo : ∀ k x, k < i → L[k]? = some x → x.at_ + x.bytes.length ≤ f) (hhi : ∀ k x, i ≤ k → L[k]? = some x → f < x.at_ + x.bytes.length) :
    (∀ x, L[i]? = some x → x.at_ ≤ f → cutZ (L.map PzV.m) f t = ((x.bytes.drop (f - x.at_)).take (t - f), x.prot)) ∧ ((∀ x, L[i]? = some x → ¬ x.at_ ≤ f) → cutZ (L.map PzV.m) f t = ([], 0)) := by
  constructor
  · intro x hx hxf
    have key : (L.map PzV.m).find? (fun p => decide (p.at_ ≤ f) && decide (f < p.end_)) = some x.m := by
      refine find_at _ (L.map PzV.m) i x.m (by rw [List.getElem?_map, hx]; rfl) (fun k y hk hy => ?_) ?_
      · rw [List.getElem?_map] at hy
        obtain ⟨z, hz, rfl⟩ := Option.map_eq_some_iff.1 hy
        have := hlo k z hk hz
        have e : z.m.end_ = z.at_ + z.bytes.length := rfl
        rw [e, decide_eq_false (by omega : ¬ f < z.at_ + z.bytes.length), Bool.and_false]
      · have := hhi i x (Nat.le_refl _) hx
        have e : x.m.end_ = x.at_ + x.bytes.length := rfl
        have e2 : x.m.at_ = x.at_ := rfl
        rw [e, e2, decide_eq_true this, decide_eq_true hxf]; rfl
    unfold cutZ
    rw [key]
    rfl
  · intro hn
    refine cut_none (fun p hp ⟨h1, h2⟩ => ?_)
    obtain ⟨x, hx, rfl⟩ := List.mem_map.1 hp
    obtain ⟨k, hk⟩ := List.getElem?_of_mem hx
    have e : x.m.end_ = x.at_ + x.bytes.length := rfl
    have e2 : x.m.at_ = x.at_ := rfl
    rw [e] at h2
    rw [e2] at h1
    rcases Nat.lt_trichotomy k i with h | h | h
    · have := hlo k x h hk; omega
    · subst h; exact hn x hk h1
    · obtain ⟨y, hy⟩ : ∃ y, L[i]? = some y := ⟨_, List.getElem?_eq_getElem (by have := (List.getElem?_eq_some_iff.1 hk).1; omega)⟩
      have h3 := hs.rise h hy hk
      have := hn y hy
      have := hhi i y (Nat.le_refl _) hy
      omega

theorem sz_u8B (w : World) : (sizeOf (Try.prog.elem 43)).run Try.prog w = .ok 1 w := by kernel_rfl
def CutEnd (K : Nat → Prop) (w : World) (l : List Pz) (f t : Nat) (e : Ending) (w' : World) : Prop :=
  ∃ p c, e = .returned (.tuple #[.slice p (cutZ l f t).1.length c, .int .i64 (cutZ l f t).2]) ∧ BS w' (.slice p (cutZ l f t).1.length c) (cutZ l f t).1 ∧ Below w.heap.size w w' ∧ ∀ k, inBlk (.slice p (cutZ l f t).1.length c) k → K k

theorem below_drewNP {B : Nat} {w w' : World} (h : Below B w w') (q : Nat) : Below B w (w'.drewN q) := ⟨h.os, h.tape, h.output, h.size, h.block⟩
theorem cut_drewN {K : Nat → Prop} {w w1 : World} {l : List Pz} {f t : Nat} {e : Ending} (h : CutEnd K w l f t e w1) (q : Nat) : CutEnd K w l f t e (w1.drewN q) := by
  obtain ⟨p, c, h1, h2, h3, h4⟩ := h
  exact ⟨p, c, h1, h2, below_drewNP h3 q, h4⟩

set_option maxHeartbeats 2000000 in
set_option maxRecDepth 8000 in
theorem bd_cut (K : Nat → Prop) (w : World) (v : Value) (L : List PzV) (hK : ∀ x ∈ L, ∀ k, inBlk x.sl k → K k) (h : PzsAt w v L) (hs : Srt 0 (L.map PzV.m)) (hlen : L.length ≤ 100000) (f t : Nat) (hft : f < t) (hno : NoIn (L.map PzV.m) f t) (ht : t < 2 ^ 63) :
    Calls Try.prog 41 #[v, .int .u64 (f : Int), .int .u64 (t : Int)] w (CutEnd K w (L.map PzV.m) f t) := by
  obtain ⟨a, cap, rfl⟩ := RowsAt.form h.rows
  have H := hid (And.intro h (And.intro hs (And.intro hlen (And.intro hft (And.intro hno ht)))))
  have HK := hid hK
  have hbs := hid (bd_bs w _ L h hs hlen f)
  clear h hs hlen hft hno ht hK
  go_enter Try.func41, Try.ntmps41
  go_wp2_with fail
  refine hbs.out.mono ?_
  rintro e w1 ⟨i, hi, hlo, hhi, rfl, hb⟩
  obtain ⟨hc1, hc2⟩ := cut_of (t := t) H.out.2.1 hlo hhi
  by_cases hx : ∃ x, L[i]? = some x ∧ x.at_ ≤ f
  · obtain ⟨x, hx, hxf⟩ := hx
    have hcz := hc1 x hx hxf
    have hxm := List.mem_of_getElem? hx
    have hlt := (List.getElem?_eq_some_iff.1 hx).1
    have hxo := H.out.2.1.at_le x.m (List.mem_map_of_mem hxm)
    have hfx := hhi i x (Nat.le_refl _) hx
    have hte : t ≤ x.at_ + x.bytes.length := by
      have h1 := H.out.2.2.2.2.1 x.m.end_ (List.mem_flatMap.2 ⟨x.m, List.mem_map_of_mem hxm, by simp⟩)
      have e : x.m.end_ = x.at_ + x.bytes.length := rfl
      rw [e] at h1
      omega
    obtain ⟨g, off, rfl, y0, y1, y2⟩ := (H.out.1.below hb).cell hx
    have hbx := (H.out.1.below hb).bytes x hxm
    have hft := H.out.2.2.2.1
    have hcap : x.bytes.length ≤ x.cap := by obtain ⟨_, _, e, h1, _⟩ := hbx; cases e; exact h1
    have hsub := fun (w : World) => run_sub2 (P := Try.prog) (w := w) (t := 43) x.p x.bytes.length x.cap un_bsB (sz_u8B w) .u64 .u64 ((f - x.at_ : Nat) : Int) ((t - x.at_ : Nat) : Int) (by omega) (by omega) (by omega)
    simp only [Int.toNat_natCast] at hsub
    have hbsub := sub_bs (l := x.bytes) hbx (lo := f - x.at_) (hi := t - x.at_) (m := x.cap) (by omega) (by omega) (by omega) (Nat.le_refl _)
    have hn : t - x.at_ - (f - x.at_) = t - f := by omega
    rw [hn] at hsub hbsub
    have hblk : ∀ k, inBlk (.slice (subA x.p (f - x.at_) x.cap) (t - f) (x.cap - (f - x.at_))) k → K k := fun k hk => HK.out x hxm k (sub_blk (n := x.bytes.length) (cap := x.cap) (lo := f - x.at_) (hi := t - x.at_) (m := x.cap) (by omega) (by omega) (by rw [hn]; exact hk))
    have hl : ((x.bytes.drop (f - x.at_)).take (t - f)).length = t - f := by rw [List.length_take, List.length_drop]; omega
    have b1 : (0 : Int) ≤ (i : Int) := by omega
    have b2 : (i : Int) < (L.length : Int) := by omega
    have w1' : IntKind.u64.wrap ((f : Int) - (x.at_ : Int)) = ((f - x.at_ : Nat) : Int) := (IntWalk.u64_in _ (by have := H.out.2.2.2.2.2; omega)).trans (by omega)
    have w2' : IntKind.u64.wrap ((t : Int) - (x.at_ : Int)) = ((t - x.at_ : Nat) : Int) := (IntWalk.u64_in _ (by have := H.out.2.2.2.2.2; omega)).trans (by omega)
    have hd : hasAt L i f = true := by unfold hasAt; rw [hx]; exact decide_eq_true hxf
    obtain ⟨q, hq⟩ : ∃ q, q = subA x.p (f - x.at_) x.cap := ⟨_, rfl⟩
    obtain ⟨c', hc'⟩ : ∃ c, c = x.cap - (f - x.at_) := ⟨_, rfl⟩
    rw [← hq, ← hc'] at hsub hbsub hblk
    have hf : CutEnd K w (L.map PzV.m) f t (.returned (.tuple #[.slice q (t - f) c', .int .i64 x.prot])) w1 := by
      refine ⟨q, c', ?_, ?_, hb, ?_⟩
      · rw [hcz, hl]
      · rw [hcz, hl]; exact hbsub
      · rw [hcz, hl]; exact hblk
    rw [hd]
    have Hf := hid hf
    have HY := hid (And.intro y0 (And.intro y1 y2))
    clear hcz hd hf hc1 hc2 hlo hhi hb hi hbx hbsub hblk hl hxo hfx hte hft hcap hn hq hc' hx hxm hlt
    go_wp2_with fail
    go_upto_region 4 with fail
    go_quiet (fail)
    go_wp2_with fail
    refine bodyPost_ret (v := .tuple #[.slice q ((t - f : Nat)) c', .int .i64 x.prot]) (by simp [results, Try.results41, go_sem]) rfl ?_
    exact cut_drewN Hf.out _
  · have hcz := hc2 (fun x h1 h2 => hx ⟨x, h1, h2⟩)
    have hd : hasAt L i f = false := by
      unfold hasAt
      cases e : L[i]? with
      | none => rfl
      | some x => exact decide_eq_false (fun h => hx ⟨x, e, h⟩)
    have hf : CutEnd K w (L.map PzV.m) f t (.returned (.tuple #[.slice none 0 0, .int .i64 0])) w1 := by
      refine ⟨none, 0, ?_, ?_, hb, fun k hk => hk.elim⟩
      · rw [hcz]; rfl
      · rw [hcz]; exact ⟨none, 0, rfl, Nat.le_refl _, ⟨Nat.zero_le _, by simp⟩, fun h => absurd rfl h⟩
    rw [hd]
    have Hf := hid hf
    clear hcz hd hf hx hc1 hc2 hlo hhi hb hi
    go_wp2_with fail
    refine bodyPost_ret (v := .tuple #[.slice none 0 0, .int .i64 0]) (by simp [results, Try.results41, go_sem]) rfl ?_
    exact Hf.out
end Go.Proofs.Ythlnjfnjmjdohaa
