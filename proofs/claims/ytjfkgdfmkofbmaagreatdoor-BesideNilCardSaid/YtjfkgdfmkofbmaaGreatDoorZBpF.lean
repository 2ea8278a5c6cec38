/- put: bytes behind pieces. -/
import Derived.Test.YtjfkgdfmkofbmaaGreatDoorZBpC
namespace Go.Proofs.YtjfkgdfmkofbmaaGreatDoor
set_option linter.unusedSimpArgs false
set_option linter.unusedVariables false
open Go.RowKit

theorem put_end_up {M M2 : Nat → Prop} {w w2 w' : World} {L : List PzV} {at_ : Nat} {prot : Int} {bs : List UInt8} {e : Ending} (hb : Below w.heap.size w w2) (hs : ∀ k, M2 k → Mn M w w2 k) (h : PutEnd M2 w2 L at_ prot bs e w') : PutEnd M w L at_ prot bs e w' := by
  obtain ⟨v', L', he, ho, hm, hi⟩ := h
  have hi2 : Its (Mn M w w2) (Mn (Mn M w w2) w2 w') w2 w' := its_mn (M1 := fun k => Mn M w w2 k ∨ Mn M2 w2 w' k) ⟨hi.os, hi.tape, hi.output, hi.size, fun k hk hn => hi.keep k hk (fun h => hn (hs k h)), fun _ h => .inl h, fun k hk => by
    rcases hk with h | h | h
    · exact .inl h
    · exact .inl (hs k h)
    · exact .inr h.1, fun hl k hk => by
    rcases hk with h | h | h
    · exact Nat.lt_of_lt_of_le (hl k h) hi.size
    · exact Nat.lt_of_lt_of_le (hl k (hs k h)) hi.size
    · exact h.2⟩
  refine ⟨v', L', he, ho.widen (fun k hk => ?_), hm, its_mn ((its_below M hb).trans hi2)⟩
  rcases hk with h | h
  · rcases hs k h with h | h
    · exact .inl h
    · exact .inr ⟨h.1, Nat.lt_of_lt_of_le h.2 hi.size⟩
  · exact .inr ⟨Nat.le_trans hb.size h.1, h.2⟩

theorem alloc3 (w : World) (o1 o2 o3 : Obj) : Below w.heap.size w (((w.alloc o1).alloc o2).alloc o3) ∧ (((w.alloc o1).alloc o2).alloc o3).heap[w.heap.size]? = some o1 ∧ (((w.alloc o1).alloc o2).alloc o3).heap[w.heap.size + 1]? = some o2 ∧ (((w.alloc o1).alloc o2).alloc o3).heap[w.heap.size + 1 + 1]? = some o3 := by
  have b1 : Below w.heap.size w (w.alloc o1) := (Below.refl _ _).alloc (Nat.le_refl _) _
  have b2 : Below (w.alloc o1).heap.size (w.alloc o1) ((w.alloc o1).alloc o2) := (Below.refl _ _).alloc (Nat.le_refl _) _
  have b3 : Below ((w.alloc o1).alloc o2).heap.size ((w.alloc o1).alloc o2) (((w.alloc o1).alloc o2).alloc o3) := (Below.refl _ _).alloc (Nat.le_refl _) _
  have s1 : (w.alloc o1).heap.size = w.heap.size + 1 := by simp
  have s2 : ((w.alloc o1).alloc o2).heap.size = w.heap.size + 1 + 1 := by rw [World.size_alloc, s1]
  refine ⟨b1.trans ((b2.mono b1.size).trans (b3.mono (by omega))), ?_, ?_, ?_⟩
  · exact (b3.block _ (by omega)).trans ((b2.block _ (by omega)).trans (heap_alloc_new w o1))
  · rw [← s1]; exact (b3.block _ (by omega)).trans (heap_alloc_new _ o2)
  · rw [← s2]; exact heap_alloc_new _ o3

/-- What stands while put goes on. -/
structure PutIn (w W : World) (at_ : Nat) (prot : Int) (src : Value) (bs : List UInt8) : Prop where
  bel : Below w.heap.size w W
  box : Boxes W w.heap.size (w.heap.size + 1) (w.heap.size + 1 + 1) at_ prot src
  bs : BS W src bs
theorem PutIn.below {w W W' : World} {at_ : Nat} {prot : Int} {src : Value} {bs : List UInt8} (h : PutIn w W at_ prot src bs) (hb : Below W.heap.size W W') : PutIn w W' at_ prot src bs :=
  ⟨h.bel.trans (hb.mono h.bel.size), h.box.below hb, h.bs.below hb⟩

theorem PutIn.size {w W : World} {at_ : Nat} {prot : Int} {src : Value} {bs : List UInt8} (h : PutIn w W at_ prot src bs) : w.heap.size + 3 ≤ W.heap.size := by
  have := (Array.getElem?_eq_some_iff.1 h.box.r3).1; omega
/-- Behind the copy: what grown may write. -/
theorem put_new {M : Nat → Prop} {w W w2 : World} {v : Value} {L : List PzV} {at_ : Nat} {prot : Int} {src : Value} {bs : List UInt8} {p2 : Option Addr} {c2 : Nat} (hlt : ∀ k, M k → k < w.heap.size) (h : OwnPz M w v L) (hok : bs ≠ [] ∧ at_ + bs.length ≤ MAXA) (hi : PutIn w W at_ prot src bs)
    (ho : OB w2 W.heap.size 5 (.slice p2 bs.length c2) bs) (hb : Below W.heap.size W w2) :
    ∃ M2 : Nat → Prop, (∀ k, M2 k → Mn M w w2 k) ∧ (∀ k, w.heap.size ≤ k → k < w.heap.size + 3 → ¬ M2 k) ∧ (∀ k, M2 k → k < w2.heap.size) ∧ OwnPz M2 w2 v L ∧ NewPz M2 w2 v L ⟨at_, prot, p2, c2, bs⟩ := by
  have hl : ∀ k, (Value.slice p2 bs.length c2).ownBlock = some k → W.heap.size ≤ k ∧ k < w2.heap.size := fun k hk => World.ownsRow.lt ho k hk
  have hbw : Below w.heap.size w w2 := hi.bel.trans (hb.mono hi.bel.size)
  have hs := hi.bel.size
  refine ⟨fun k => M k ∨ (W.heap.size ≤ k ∧ k < w2.heap.size), fun k hk => hk.imp id (fun h => ⟨Nat.le_trans hs h.1, h.2⟩), fun k h1 h2 h3 => ?_, fun k hk => hk.elim (fun h1 => Nat.lt_of_lt_of_le (hlt k h1) hbw.size) And.right, (h.below hbw).widen (fun _ hk => .inl hk), ⟨OB.base ho (Nat.zero_le _), fun k hk => ?_, hok⟩⟩
  · have := hi.size
    rcases h3 with h3 | h3
    · have := hlt k h3; omega
    · omega
  · obtain ⟨h1, h2⟩ := hl k hk
    exact ⟨.inr ⟨h1, h2⟩, fun e => by have := h.lt.1 k e; omega, fun x hx e => by have := h.lt.2 x hx k e; omega⟩
theorem put_fin {M M2 : Nat → Prop} {w w2 w3 : World} {L : List PzV} {at_ : Nat} {prot : Int} {src : Value} {bs : List UInt8} {e : Ending} (hi : PutIn w w2 at_ prot src bs) (hs : ∀ k, M2 k → Mn M w w2 k) (hn : ∀ k, w.heap.size ≤ k → k < w.heap.size + 3 → ¬ M2 k) (h : PutEnd M2 w2 L at_ prot bs e w3) :
    PutEnd M w L at_ prot bs e w3 ∧ Boxes w3 w.heap.size (w.heap.size + 1) (w.heap.size + 1 + 1) at_ prot src := by
  refine ⟨put_end_up hi.bel hs h, ?_⟩
  obtain ⟨v', L', he, ho, hm, hit⟩ := h
  exact ⟨(hit.keep _ (Array.getElem?_eq_some_iff.1 hi.box.r1).1 (hn _ (by omega) (by omega))).trans hi.box.r1, (hit.keep _ (Array.getElem?_eq_some_iff.1 hi.box.r2).1 (hn _ (by omega) (by omega))).trans hi.box.r2, (hit.keep _ (Array.getElem?_eq_some_iff.1 hi.box.r3).1 (hn _ (by omega) (by omega))).trans hi.box.r3⟩
set_option maxHeartbeats 2000000 in
theorem bd_put (w : World) (M : Nat → Prop) (hlt : ∀ k, M k → k < w.heap.size) (v : Value) (L : List PzV) (h : OwnPz M w v L) (hlen : L.length ≤ 100000) (at_ : Nat) (prot : Int) (sp : Option Addr) (sc : Nat) (bs : List UInt8)
    (hbs : BS w (.slice sp bs.length sc) bs) (hne : bs ≠ []) (hmax : at_ + bs.length ≤ MAXA) :
    Calls Tryz.prog 21 #[v, .int .u64 (at_ : Int), .int .i64 prot, .slice sp bs.length sc] w (PutEnd M w L at_ prot bs) := by
  obtain ⟨hb3, q1, q2, q3⟩ := alloc3 w (.cells #[.int .u64 (at_ : Int)] 36) (.cells #[.int .i64 prot] 3) (.cells #[.slice sp bs.length sc] 72)
  obtain ⟨W1, hW1⟩ : ∃ W1, W1 = ((w.alloc (.cells #[.int .u64 (at_ : Int)] 36)).alloc (.cells #[.int .i64 prot] 3)).alloc (.cells #[.slice sp bs.length sc] 72) := ⟨_, rfl⟩
  rw [← hW1] at hb3 q1 q2 q3
  have hi1 : PutIn w W1 at_ prot (.slice sp bs.length sc) bs := ⟨hb3, ⟨q1, q2, q3⟩, hbs.below hb3⟩
  have HK := hid (And.intro hlt (And.intro h (And.intro hlen (And.intro hne hmax))))
  have HW := hid hW1.symm
  have HI := hid hi1
  clear hlt h hlen hne hmax hbs hb3 q1 q2 q3 hW1 hi1
  go_enter Tryz.func21, Tryz.ntmps21
  go_upto_region 1 with fail
  rw [HW.out]
  have hi := HI.out.below (below_drewP W1)
  go_region_held (fun W => W.cell? ⟨w.heap.size, 0, none⟩ = some (.int .u64 (at_ : Int)) ∧ W.cell? ⟨w.heap.size + 1, 0, none⟩ = some (.int .i64 prot) ∧ W.cell? ⟨w.heap.size + 1 + 1, 0, none⟩ = some (.slice sp bs.length sc)) (first | exact hi.box.cells | exact hbx.cells)
    (first
      | (go_at_call 38; (with_reducible refine (bd_clone _ sp sc bs hi.bs HK.out.2.2.2.1).mono ?_); rintro e w2 ⟨v2, rfl, ho2, hb2⟩; obtain ⟨p2, c2, hv2⟩ := sl_form (x := ⟨at_, prot, none, 0, bs⟩) (OB.base ho2 (Nat.zero_le _)); subst hv2; have hN := put_new HK.out.1 HK.out.2.1 ⟨HK.out.2.2.2.1, HK.out.2.2.2.2⟩ hi ho2 hb2; have hi := hi.below hb2; clear ho2 hb2)
      | (go_at_call 37; obtain ⟨M2, hM2, hMb, hMl, hoM, hN⟩ := hN; have hq := bd_grown _ M2 hMl v L hoM HK.out.2.2.1 ⟨at_, prot, p2, c2, bs⟩ hN _ _ _ sp sc hi.box hi.bs; dsimp only at hq; (with_reducible refine hq.mono ?_); clear hq; rintro e w3 hend; obtain ⟨hend, hbx⟩ := put_fin hi hM2 hMb hend; clear hi; obtain ⟨v3, L3, hv3, hrest⟩ := hend; subst hv3; have hend : PutEnd M w L at_ prot bs (.returned v3) w3 := ⟨v3, L3, rfl, hrest⟩; clear hrest hN hoM hMl hM2 hMb)
      | fail "no call")
  all_goals
    have Hend := hid hend
    clear hend hbx
    go_wp2_with fail
    go_ret
    exact Hend.out
end Go.Proofs.YtjfkgdfmkofbmaaGreatDoor

namespace Go.Proofs.YtjfkgdfmkofbmaaGreatDoor
set_option linter.unusedSimpArgs false
set_option linter.unusedVariables false
open Go.RowKit

/-- What is new. -/
abbrev New (w W : World) : Nat → Prop := fun k => w.heap.size ≤ k ∧ k < W.heap.size
abbrev Mz : Nat → Prop := fun _ => False
theorem mz_new {w W : World} {k : Nat} : Mn Mz w W k ↔ New w W k := ⟨fun h => h.elim False.elim id, .inr⟩
theorem its_zero {M : Nat → Prop} {w W : World} (h : Its Mz M w W) : Below w.heap.size w W := ⟨h.os, h.tape, h.output, h.size, fun k hk => h.keep k hk (fun h => h)⟩
theorem put_len (l : List Pz) (a : Nat) (q : Int) (bs : List UInt8) : (putP l a q bs).length ≤ l.length + 1 := by
  rcases last_cases l with rfl | ⟨m, p, rfl⟩
  · exact Nat.le_refl _
  · rw [putP_snoc]
    split <;> simp

/-- Pieces of the call's own, all of which are new. -/
structure NewOwn (w W : World) (v : Value) (l : List Pz) : Prop where
  bel : Below w.heap.size w W
  own : ∃ L, OwnPz (New w W) W v L ∧ L.map PzV.m = l
theorem NewOwn.nil (w : World) : NewOwn w w (.slice none 0 0) [] := ⟨Below.refl _ _, [], OwnPz.nil _ _, rfl⟩
theorem NewOwn.below {w W W' : World} {v : Value} {l : List Pz} (h : NewOwn w W v l) (hb : Below W.heap.size W W') : NewOwn w W' v l := by
  obtain ⟨h1, L, h2, h3⟩ := h
  exact ⟨h1.trans (hb.mono h1.size), L, (h2.below hb).widen (fun k hk => ⟨hk.1, Nat.lt_of_lt_of_le hk.2 hb.size⟩), h3⟩
theorem hno_form {w W : World} {v : Value} {l : List Pz} (h : NewOwn w W v l) : ∃ p n c, v = .slice p n c := by
  obtain ⟨-, M, hM, -⟩ := h
  exact own_form hM.own
/-- One more put. -/
theorem put_own (w W : World) (v : Value) (l : List Pz) (h : NewOwn w W v l) (hlen : l.length ≤ 100000) (at_ : Nat) (prot : Int) (sp : Option Addr) (sc : Nat) (bs : List UInt8)
    (hbs : BS W (.slice sp bs.length sc) bs) (hne : bs ≠ []) (hmax : at_ + bs.length ≤ MAXA) :
    Calls Tryz.prog 21 #[v, .int .u64 (at_ : Int), .int .i64 prot, .slice sp bs.length sc] W fun e W' => ∃ v', e = .returned v' ∧ NewOwn w W' v' (putP l at_ prot bs) ∧ Its (New w W) (Mn (New w W) W W') W W' := by
  obtain ⟨hb, L, ho, rfl⟩ := h
  refine (bd_put W (New w W) (fun k hk => hk.2) v L ho (by simpa using hlen) at_ prot sp sc bs hbs hne hmax).mono ?_
  rintro e W' ⟨v', L', he, ho', hm, hi⟩
  refine ⟨v', he, ⟨⟨hi.os.trans hb.os, hi.tape.trans hb.tape, hi.output.trans hb.output, Nat.le_trans hb.size hi.size, fun k hk => (hi.keep k (Nat.lt_of_lt_of_le hk hb.size) (fun h => by have := h.1; omega)).trans (hb.block k hk)⟩, L', ho'.widen (fun k hk => ?_), hm⟩, hi⟩
  rcases hk with h | h
  · exact ⟨h.1, Nat.lt_of_lt_of_le h.2 hi.size⟩
  · exact ⟨Nat.le_trans hb.size h.1, h.2⟩

theorem bd_laid_no (w : World) (v : Value) (L : List PzV) (h : PzsAt w v L) (hm : mayZ (L.map PzV.m) = false) :
    Calls Tryz.prog 5 #[v] w fun e w' => e = .returned (.tuple #[.slice none 0 0, .int .i64 2]) ∧ Below w.heap.size w w' := by
  obtain ⟨a, cap, rfl⟩ := RowsAt.form h.rows
  have hmay := bd_may w _ L h
  rw [hm] at hmay
  have H := hid hmay
  clear h hm hmay
  go_enter Tryz.func5, Tryz.ntmps5
  go_wp2_with fail
  refine H.out.mono ?_
  rintro e w1 ⟨rfl, hb1⟩
  have H1 := hid hb1
  clear hb1
  go_wp2_with fail
  refine bodyPost_ret (v := .tuple #[.slice none 0 0, .int .i64 2]) (by simp [results, Tryz.results5, go_sem]) rfl ?_
  exact ⟨rfl, H1.out⟩
set_option maxHeartbeats 1000000 in
theorem bd_laid (w : World) (v : Value) (L : List PzV) (h : PzsAt w v L) (hlen : L.length ≤ 100000) (hm : mayZ (L.map PzV.m) = true) :
    Calls Tryz.prog 5 #[v] w fun e w' => ∃ v', e = .returned (.tuple #[v', .int .i64 0]) ∧ NewOwn w w' v' (piecesZ (cellsZ (L.map PzV.m))) := by
  obtain ⟨a, cap, rfl⟩ := RowsAt.form h.rows
  have hmay := bd_may w _ L h
  rw [hm] at hmay
  have H := hid (And.intro h (And.intro hlen (And.intro hm hmay)))
  clear h hlen hm hmay
  have hsrt : Srt 0 (L.map PzV.m) := srt_of_may H.out.2.2.1
  have hok : ∀ x ∈ L, x.bytes ≠ [] ∧ x.at_ + x.bytes.length ≤ MAXA := fun x hx => by
    have := hsrt.at_le x.m (List.mem_map_of_mem hx)
    exact ⟨this.2.2.1, this.2.1⟩
  have hfold : (L.map PzV.m).foldl (fun o p => putP o p.at_ p.prot p.bytes) [] = piecesZ (cellsZ (L.map PzV.m)) := foldl_put _ (fun p hp => (hsrt.at_le p hp).2.2.1) []
  have HO := hid (And.intro hok hfold)
  clear hsrt hok hfold
  go_enter Tryz.func5, Tryz.ntmps5
  go_wp2_with fail
  refine H.out.2.2.2.mono ?_
  rintro e w1 ⟨rfl, hb1⟩
  have H1 := hid ((NewOwn.nil w).below hb1)
  clear hb1
  go_wp2_with fail
  go_loopw [2, 11] (fun vo vi wr => ∃ (k : Nat) (l : List Pz), k ≤ L.length ∧ vi = .int .i64 (k : Int) ∧ l.length ≤ k ∧ NewOwn w wr vo l ∧ ((L.map PzV.m).drop k).foldl (fun o p => putP o p.at_ p.prot p.bytes) l = piecesZ (cellsZ (L.map PzV.m))) (fun _ vi _ => L.length - (intOf vi).toNat)
  case atStart => exact ⟨0, [], Nat.zero_le _, rfl, Nat.le_refl _, H1.out, HO.out.2⟩
  case round =>
    obtain ⟨k, l, hk, rfl, hlk, hno, hfd⟩ := hrel
    by_cases hlt : k < L.length
    · obtain ⟨x, hx⟩ : ∃ x, L[k]? = some x := ⟨_, List.getElem?_eq_getElem hlt⟩
      have hxm := List.mem_of_getElem? hx
      have hat := H.out.1.below hno.bel
      obtain ⟨g, off, rfl, y0, y1, y2⟩ := hat.cell hx
      have hbs := hat.bytes x hxm
      obtain ⟨hne, hmax⟩ := HO.out.1 x hxm
      have hd : (L.map PzV.m).drop k = x.m :: (L.map PzV.m).drop (k + 1) := by
        rw [List.drop_eq_getElem_cons (by simpa using hlt)]
        congr 1
        rw [List.getElem_map]
        congr 1
        exact (List.getElem?_eq_some_iff.1 hx).2
      rw [hd, List.foldl_cons] at hfd
      obtain ⟨xa, xp, xs, xc, xb⟩ := x
      dsimp only at y0 y1 y2 hbs hne hmax
      have hwk : IntKind.i64.wrap ((k : Int) + 1) = ((k + 1 : Nat) : Int) := (IntWalk.i64_in _ (by have := H.out.2.1; omega)).trans (by omega)
      have hal : Below wr.heap.size wr (wr.alloc (.cells #[.int .u64 (xa : Int), .int .i64 xp, .slice xs xb.length xc] 74)) := (Below.refl _ _).alloc (Nat.le_refl _) _
      have hcall := put_own w (wr.alloc (.cells #[.int .u64 (xa : Int), .int .i64 xp, .slice xs xb.length xc] 74)) _ l (hno.below hal) (by have := H.out.2.1; omega) xa xp xs xc xb (hbs.below hal) hne hmax
      have HP := hid (And.intro hcall (And.intro hfd hlk))
      clear hx hxm hat hbs hne hmax hd hfd hcall hno hal hlk
      go_wp2_with fail
      refine HP.out.1.mono ?_
      rintro e w3 ⟨v3, rfl, hno3, -⟩
      have H3 := hid hno3
      clear hno3
      go_wp2_with fail
      refine ⟨⟨k + 1, _, by omega, by go_num, ?_, H3.out, HP.out.2.1⟩, by simp [intOf]; omega⟩
      have := put_len l xa xp xb
      have := HP.out.2.2
      show (putP l xa xp xb).length ≤ k + 1
      omega
    · have hf : l = piecesZ (cellsZ (L.map PzV.m)) := by rw [← hfd, List.drop_eq_nil_of_le (by simp; omega)]; rfl
      rw [hf] at hno
      have HN := hid hno
      clear hno hfd hf
      go_wp2_with fail
      obtain ⟨p, n, c, hv⟩ := hno_form HN.out
      subst hv
      go_wp2_with fail
      refine bodyPost_ret (v := .tuple #[.slice p n c, .int .i64 0]) (by simp [results, Tryz.results5, go_sem]) rfl ?_
      exact ⟨_, rfl, HN.out⟩
end Go.Proofs.YtjfkgdfmkofbmaaGreatDoor

namespace Go.Proofs.YtjfkgdfmkofbmaaGreatDoor
set_option linter.unusedSimpArgs false
set_option linter.unusedVariables false
open Go.RowKit

def cmpZ (x : PzV) (f : Nat) : Int := if x.at_ + x.bytes.length ≤ f then -1 else if f < x.at_ then 1 else 0

set_option maxHeartbeats 1000000 in
theorem bd_cmp (w : World) (x : PzV) (f : Nat) (hx : x.at_ + x.bytes.length < 2 ^ 64) :
    Calls Tryz.prog 59 #[.agg #[.int .u64 (x.at_ : Int), .int .i64 x.prot, .slice x.p x.bytes.length x.cap], .int .u64 (f : Int)] w fun e w' => e = .returned (.int .i64 (cmpZ x f)) ∧ Below w.heap.size w w' := by
  have hal : Below w.heap.size w (w.alloc (.cells #[.int .u64 (x.at_ : Int), .int .i64 x.prot, .slice x.p x.bytes.length x.cap] 74)) := (Below.refl _ _).alloc (Nat.le_refl _) _
  have hrw : (w.alloc (.cells #[.int .u64 (x.at_ : Int), .int .i64 x.prot, .slice x.p x.bytes.length x.cap] 74)).heap[w.heap.size]? = some (.cells #[.int .u64 (x.at_ : Int), .int .i64 x.prot, .slice x.p x.bytes.length x.cap] 74 (0, 0)) := heap_alloc_new w _
  obtain ⟨C, hC⟩ : ∃ C, C = cmpZ x f := ⟨_, rfl⟩
  rw [← hC]
  have HC := hid hC
  obtain ⟨xa, xp, xs, xc, xb⟩ := x
  dsimp only at hx hal hrw
  have hE := hid (fun W => bd_end W xa xp xs xb.length xc (by omega))
  have H := hid (And.intro hal hrw)
  obtain ⟨E, hEe⟩ : ∃ E, E = xa + xb.length := ⟨_, rfl⟩
  rw [← hEe] at hE
  have HEe := hid hEe
  have x0 := cell_of_row _ _ 0 _ _ _ hrw
  have x1 := cell_of_row _ _ 1 _ _ _ hrw
  have x2 := cell_of_row _ _ 2 _ _ _ hrw
  clear hx hal hrw hC hEe
  go_enter Tryz.func59, Tryz.ntmps59
  go_upto_region 1 with fail
  go_wp2_with fail
  refine (hE.out _).mono ?_
  rintro e w2 ⟨rfl, hb2⟩
  have hr2 := (hb2.block _ (Array.getElem?_eq_some_iff.1 H.out.2).1).trans H.out.2
  have y0 := cell_of_row _ _ 0 _ _ _ hr2
  have Hb := hid (H.out.1.trans (hb2.mono H.out.1.size))
  clear hb2 hr2 x0 x1 x2
  by_cases c1 : E ≤ f
  · have d1 : decide ((E : Int) ≤ (f : Int)) = true := decide_eq_true (by omega)
    have d1n : decide (E ≤ f) = true := decide_eq_true c1
    have hCe : C = -1 := by rw [HC.out]; unfold cmpZ; rw [if_pos (by rw [← HEe.out]; exact c1)]
    have HCe := hid hCe
    clear c1 hCe
    go_wp2_with fail
    go_ret
    exact ⟨by rw [HCe.out]; rfl, Hb.out⟩
  · have d1 : decide ((E : Int) ≤ (f : Int)) = false := decide_eq_false (by omega)
    have d1n : decide (E ≤ f) = false := decide_eq_false c1
    by_cases c2 : f < xa
    · have d2 : decide ((f : Int) < (xa : Int)) = true := decide_eq_true (by omega)
      have d2n : decide (f < xa) = true := decide_eq_true c2
      have hCe : C = 1 := by rw [HC.out]; unfold cmpZ; rw [if_neg (by rw [← HEe.out]; exact c1), if_pos c2]
      have HCe := hid hCe
      clear c1 c2 hCe
      go_wp2_with fail
      go_ret
      exact ⟨by rw [HCe.out]; rfl, Hb.out⟩
    · have d2 : decide ((f : Int) < (xa : Int)) = false := decide_eq_false (by omega)
      have d2n : decide (f < xa) = false := decide_eq_false c2
      have hCe : C = 0 := by rw [HC.out]; unfold cmpZ; rw [if_neg (by rw [← HEe.out]; exact c1), if_neg c2]
      have HCe := hid hCe
      clear c1 c2 hCe
      go_wp2_with fail
      go_ret
      exact ⟨by rw [HCe.out]; rfl, Hb.out⟩

theorem Srt.pairs {n : Nat} {l : List Pz} (h : Srt n l) : l.Pairwise (fun x y => x.end_ ≤ y.at_) := by
  induction h with
  | nil n => exact List.Pairwise.nil
  | @cons n p l h1 h2 h3 h4 h ih => exact List.Pairwise.cons (fun y hy => (h.at_le y hy).1) ih
theorem Srt.rise {n : Nat} {L : List PzV} (h : Srt n (L.map PzV.m)) {i j : Nat} (hij : i < j) {x y : PzV} (hx : L[i]? = some x) (hy : L[j]? = some y) : x.at_ + x.bytes.length ≤ y.at_ := by
  have hp := h.pairs
  have hj : j < L.length := (List.getElem?_eq_some_iff.1 hy).1
  have := List.pairwise_iff_getElem.1 hp i j (by simpa using Nat.lt_trans hij hj) (by simpa using hj) hij
  rw [List.getElem_map, List.getElem_map, (List.getElem?_eq_some_iff.1 hx).2, (List.getElem?_eq_some_iff.1 hy).2] at this
  exact this

def hasAt (L : List PzV) (i f : Nat) : Bool := match L[i]? with
  | some x => decide (x.at_ ≤ f)
  | none => false
/-- Where the search stands. -/
def BsEnd (w : World) (L : List PzV) (f : Nat) (e : Ending) (w' : World) : Prop :=
  ∃ i : Nat, i ≤ L.length ∧ (∀ k x, k < i → L[k]? = some x → x.at_ + x.bytes.length ≤ f) ∧ (∀ k x, i ≤ k → L[k]? = some x → f < x.at_ + x.bytes.length) ∧
    e = .returned (.tuple #[.int .i64 (i : Int), .bool (hasAt L i f)]) ∧ Below w.heap.size w w'

set_option maxHeartbeats 2000000 in
set_option maxRecDepth 8000 in
theorem bd_bs (w : World) (v : Value) (L : List PzV) (h : PzsAt w v L) (hs : Srt 0 (L.map PzV.m)) (hlen : L.length ≤ 100000) (f : Nat) :
    Calls Tryz.prog 58 #[v, .int .u64 (f : Int), .func (.func 59) #[] #[]] w (BsEnd w L f) := by
  obtain ⟨a, cap, rfl⟩ := RowsAt.form h.rows
  have H := hid (And.intro h (And.intro hs hlen))
  clear h hs hlen
  go_enter Tryz.func58, Tryz.ntmps58
  go_wp2_with fail
  go_loopw [9, 10] (fun vi vj wr => ∃ i j : Nat, vi = .int .i64 (i : Int) ∧ vj = .int .i64 (j : Int) ∧ i ≤ j ∧ j ≤ L.length ∧ (∀ k x, k < i → L[k]? = some x → x.at_ + x.bytes.length ≤ f) ∧ (∀ k x, j ≤ k → L[k]? = some x → f < x.at_ + x.bytes.length) ∧ Below w.heap.size w wr) (fun vi vj _ => (intOf vj).toNat - (intOf vi).toNat)
  case atStart => exact ⟨0, L.length, rfl, rfl, Nat.zero_le _, Nat.le_refl _, fun k x hk => by omega, fun k x hk hx => by have := (List.getElem?_eq_some_iff.1 hx).1; omega, Below.refl _ _⟩
  case round =>
    obtain ⟨i, j, rfl, rfl, hij, hj, hlo, hhi, hb⟩ := hrel
    by_cases hlt : i < j
    · obtain ⟨m, hm⟩ : ∃ m, m = (i + j) / 2 := ⟨_, rfl⟩
      have hmi : i ≤ m ∧ m < j := by omega
      obtain ⟨x, hx⟩ : ∃ x, L[m]? = some x := ⟨_, List.getElem?_eq_getElem (by omega)⟩
      obtain ⟨g, off, rfl, y0, y1, y2⟩ := (H.out.1.below hb).cell hx
      have hxo := H.out.2.1.at_le x.m (List.mem_map_of_mem (List.mem_of_getElem? hx))
      have hl3 := H.out.2.2
      have hwa : IntKind.i64.wrap ((i : Int) + (j : Int)) = ((i + j : Nat) : Int) := (IntWalk.i64_in _ (by omega)).trans (by omega)
      have hwb : IntKind.u64.wrap ((i : Int) + (j : Int)) = ((i + j : Nat) : Int) := (IntWalk.u64_in _ (by omega)).trans (by omega)
      have hwb2 : IntKind.u64.wrap ((i + j : Nat) : Int) = ((i + j : Nat) : Int) := IntWalk.u64_in _ (by omega)
      have hwc : (((i + j : Nat) : Int) / 2) = (m : Int) := by omega
      have hwc2 : (((i : Int) + (j : Int)) / 2) = (m : Int) := by omega
      have hwd : IntKind.i64.wrap (m : Int) = (m : Int) := IntWalk.i64_in _ (by omega)
      have hwe : IntKind.i64.wrap ((m : Int) + 1) = ((m + 1 : Nat) : Int) := (IntWalk.i64_in _ (by omega)).trans (by omega)
      have b1 : (0 : Int) ≤ (m : Int) := by omega
      have b2 : (m : Int) < (L.length : Int) := by omega
      have hd : decide ((i : Int) < (j : Int)) = true := decide_eq_true (by omega)
      have hcmp := bd_cmp wr x f (by have := hxo.2.1; unfold Pz.end_ MAXA at this; show x.at_ + x.bytes.length < 2 ^ 64; have e : x.m.bytes = x.bytes := rfl; have e2 : x.m.at_ = x.at_ := rfl; rw [e, e2] at this; omega)
      have HX := hid (And.intro hx (And.intro hmi (And.intro hlo (And.intro hhi (And.intro hb hcmp)))))
      have Hj := hid hj
      clear hx hm hlo hhi hb hcmp hxo hlt hij hj
      go_wp2_with fail
      refine HX.out.2.2.2.2.2.mono ?_
      rintro e w2 ⟨rfl, hb2⟩
      have Hb := hid (HX.out.2.2.2.2.1.trans (hb2.mono HX.out.2.2.2.2.1.size))
      clear hb2 y0 y1 y2
      by_cases c : x.at_ + x.bytes.length ≤ f
      · have hC : cmpZ x f = -1 := by unfold cmpZ; rw [if_pos c]
        have d1 : decide (cmpZ x f < 0) = true := by rw [hC]; decide
        have Hc := hid c
        clear c hC
        go_wp2_with fail
        have := HX.out.2.1
        have := Hj.out
        refine ⟨⟨m + 1, j, by go_num, rfl, by omega, by omega, fun k z hk hz => ?_, HX.out.2.2.2.1, Hb.out⟩, by simp [intOf]; omega⟩
        rcases Nat.lt_or_ge k m with hkm | hkm
        · have h1 := H.out.2.1.rise hkm hz HX.out.1
          have := Hc.out
          omega
        · obtain rfl : k = m := by omega
          rw [HX.out.1] at hz
          cases hz
          exact Hc.out
      · have hC : ¬ cmpZ x f < 0 := by unfold cmpZ; rw [if_neg c]; split <;> decide
        have d1 : decide (cmpZ x f < 0) = false := decide_eq_false hC
        have Hc := hid c
        clear c hC
        go_wp2_with fail
        have := HX.out.2.1
        have := Hj.out
        refine ⟨⟨i, m, rfl, by go_num, by omega, by omega, HX.out.2.2.1, fun k z hk hz => ?_, Hb.out⟩, by simp [intOf]; omega⟩
        rcases Nat.lt_or_ge m k with hkm | hkm
        · have h1 := H.out.2.1.rise hkm HX.out.1 hz
          have := Hc.out
          omega
        · obtain rfl : k = m := by omega
          rw [HX.out.1] at hz
          cases hz
          have := Hc.out
          omega
    · obtain rfl : i = j := by omega
      have hl3 := H.out.2.2
      have hd : decide ((i : Int) < (i : Int)) = false := decide_eq_false (by omega)
      by_cases hn : i < L.length
      · obtain ⟨x, hx⟩ : ∃ x, L[i]? = some x := ⟨_, List.getElem?_eq_getElem hn⟩
        obtain ⟨g, off, rfl, y0, y1, y2⟩ := (H.out.1.below hb).cell hx
        have hxo := H.out.2.1.at_le x.m (List.mem_map_of_mem (List.mem_of_getElem? hx))
        have b1 : (0 : Int) ≤ (i : Int) := by omega
        have b2 : (i : Int) < (L.length : Int) := by omega
        have d2 : decide ((i : Int) < (L.length : Int)) = true := decide_eq_true b2
        have hcmp := bd_cmp wr x f (by have := hxo.2.1; unfold Pz.end_ MAXA at this; show x.at_ + x.bytes.length < 2 ^ 64; have e : x.m.bytes = x.bytes := rfl; have e2 : x.m.at_ = x.at_ := rfl; rw [e, e2] at this; omega)
        have hfx := hhi i x (Nat.le_refl _) hx
        have hq : (cmpZ x f == 0) = decide (x.at_ ≤ f) := by
          unfold cmpZ
          rw [if_neg (by omega)]
          by_cases hc : f < x.at_
          · rw [if_pos hc, decide_eq_false (by omega)]; rfl
          · rw [if_neg hc, decide_eq_true (by omega)]; rfl
        obtain ⟨C, hC⟩ : ∃ C, C = cmpZ x f := ⟨_, rfl⟩
        obtain ⟨Q, hQ⟩ : ∃ Q, Q = decide (x.at_ ≤ f) := ⟨_, rfl⟩
        rw [← hC, ← hQ] at hq
        rw [← hC] at hcmp
        have HX := hid (And.intro hx (And.intro hlo (And.intro hhi (And.intro hb (And.intro hcmp hQ)))))
        clear hx hlo hhi hb hcmp hxo hlt hij hj hfx hC hQ
        go_wp2_with fail
        refine HX.out.2.2.2.2.1.mono ?_
        rintro e w2 ⟨rfl, hb2⟩
        have Hb := hid (HX.out.2.2.2.1.trans (hb2.mono HX.out.2.2.2.1.size))
        clear hb2 y0 y1 y2
        go_wp2_with fail
        refine bodyPost_ret (v := .tuple #[.int .i64 (i : Int), .bool Q]) (by simp [results, Tryz.results58, go_sem, hq]) rfl ?_
        refine ⟨i, by omega, HX.out.2.1, HX.out.2.2.1, ?_, Hb.out⟩
        unfold hasAt
        rw [HX.out.1, HX.out.2.2.2.2.2]
      · have hni : L[i]? = none := List.getElem?_eq_none (by omega)
        have d2 : decide ((i : Int) < (L.length : Int)) = false := decide_eq_false (by omega)
        have HX := hid (And.intro hni (And.intro hlo (And.intro hhi (And.intro hb hj))))
        clear hni hlo hhi hb hlt hij hj
        go_wp2_with fail
        refine bodyPost_ret (v := .tuple #[.int .i64 (i : Int), .bool false]) (by simp [results, Tryz.results58, go_sem]) rfl ?_
        exact ⟨i, HX.out.2.2.2.2, HX.out.2.1, HX.out.2.2.1, by unfold hasAt; rw [HX.out.1], HX.out.2.2.2.1⟩
end Go.Proofs.YtjfkgdfmkofbmaaGreatDoor
