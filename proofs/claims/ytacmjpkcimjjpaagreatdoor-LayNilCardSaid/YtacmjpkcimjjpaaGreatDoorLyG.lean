/- Package lay: Slides, of any images. -/
import Derived.Test.YtacmjpkcimjjpaaGreatDoorLyF
namespace Go.Proofs.YtacmjpkcimjjpaaGreatDoor
set_option linter.unusedSimpArgs false
set_option linter.unusedVariables false
open Go.RowKit

attribute [local go_sem ↓] old_img old_simg old_cimg old_zimg
attribute [local go_sem] big_img big_simg big_cimg big_zimg img0_ok

/-- An image by value: its cells, its segments; what counts of it here. -/
structure Img where
  I : Array Value
  v : Value
  segs : List Seg
  kind : Int
  flags : Nat

structure Img.Ok (m : Img) : Prop where
  ok : ImgOk m.I
  segs : m.I[4]? = some m.v
  kind : m.I[0]? = some (.int .i64 m.kind)
  flags : m.I[2]? = some (.int .u32 (m.flags : Int))

theorem Img.Ok.imgV {m : Img} (h : m.Ok) : ImgV m.I m.v := ⟨h.ok.1, h.segs⟩

/-- A slice that reads as images. -/
def ImgsAt (w : World) (v : Value) (L : List Img) : Prop :=
  ∃ (p : Option Addr) (cap : Nat), v = .slice p L.length cap ∧ L.length ≤ cap ∧ (cap ≤ maxLen ∧ L.length ≤ 549755813888) ∧
    (L ≠ [] → ∃ b off, p = some ⟨b, off, none⟩ ∧ ∀ i m, L[i]? = some m → b < w.heap.size ∧ rowA w ⟨b, off + i * 24, none⟩ 24 = some m.I ∧ SegsAt w m.v m.segs ∧ m.Ok)

theorem ImgsAt.below {w w' : World} {v : Value} {L : List Img} (h : ImgsAt w v L) (hb : Below w.heap.size w w') : ImgsAt w' v L := by
  obtain ⟨p, cap, hv, h1, h2, h3⟩ := h
  refine ⟨p, cap, hv, h1, h2, fun hne => ?_⟩
  obtain ⟨b, off, hp, hc⟩ := h3 hne
  refine ⟨b, off, hp, fun i m hm => ?_⟩
  obtain ⟨a1, a2, a3, a4⟩ := hc i m hm
  exact ⟨Nat.lt_of_lt_of_le a1 hb.size, rowA_below hb a1 a2, a3.below hb, a4⟩

theorem ImgsAt.at {w : World} {p : Option Addr} {n cap : Nat} {L : List Img} (h : ImgsAt w (.slice p n cap) L) {i : Nat} {m : Img} (hm : L[i]? = some m) :
    ∃ b off, p = some ⟨b, off, none⟩ ∧ b < w.heap.size ∧ rowA w ⟨b, off + i * 24, none⟩ 24 = some m.I ∧ SegsAt w m.v m.segs ∧ m.Ok := by
  obtain ⟨p', cap', hv, h1, h2, h3⟩ := h
  cases hv
  obtain ⟨b, off, hp, hc⟩ := h3 (by intro e; subst e; simp at hm)
  exact ⟨b, off, hp, hc i m hm⟩

/-- Is an image's place the file's own? -/
def flagB (m : Img) : Bool := bits .and .u32 (m.flags : Int) 2097152 == 0
def fixedM (i : Nat) (m : Img) : Bool := decide (i = 0) && ((m.kind == 2) && flagB m)

/-- The slides from a place on: those that there are already ahead; which one has no room, an error. -/
def slidesF : Nat → Nat → List Img → List Int → List Int × Nat × Int
  | _, _, [], acc => (acc, 0, 0)
  | place, i, m :: r, acc =>
    if (nextM (lowM m.segs) (highM m.segs) (fixedM i m) place).2.1 ≠ 0 then ([], i, (nextM (lowM m.segs) (highM m.segs) (fixedM i m) place).2.1)
    else slidesF (nextM (lowM m.segs) (highM m.segs) (fixedM i m) place).2.2 (i + 1) r (acc ++ [(nextM (lowM m.segs) (highM m.segs) (fixedM i m) place).1])

def u64s (l : List Int) : List Value := l.map (Value.int .u64)

theorem nextM_place {lo hi place : Nat} {f : Bool} (h : place ≤ 140737488355328) : (nextM lo hi f place).2.2 ≤ 140737488355328 := by
  unfold nextM
  split
  · exact h
  · split
    · exact h
    · split
      · show max _ _ ≤ _; omega
      · show min _ _ ≤ _; omega

def SlidesEnd (w : World) (r : List Int × Nat × Int) (e : Ending) (w' : World) : Prop :=
  (∃ v, e = .returned (.tuple #[v, .int .i64 (r.2.1 : Int), .int .i64 r.2.2]) ∧ w'.ownsRow w.heap.size 22 1 v r.1.length (u64s r.1)) ∧ Below w.heap.size w w'

/-- What holds at each image's head. -/
def SlR (w : World) (base : Nat) (L : List Img) (v9 v30 : Value) (wr : World) : Prop :=
  ∃ (k place : Nat) (acc : List Int), k ≤ L.length ∧ v30 = .int .i64 (k : Int) ∧ slidesF base 0 L [] = slidesF place k (L.drop k) acc ∧ place ≤ 140737488355328 ∧ acc.length = k ∧
    wr.ownsRow (w.heap.size + 1) 22 1 v9 acc.length (u64s acc) ∧ RowAt wr w.heap.size 22 #[.int .u64 (place : Int)] ∧ Below w.heap.size w wr

theorem Tryz.infoU64 : (Tryz.prog.info? 22).map (fun i => (i.zero, i.size, i.bytes)) = some (some (.int .u64 0), 1, 8) := by kernel_rfl

set_option maxRecDepth 10000 in
set_option maxHeartbeats 4000000 in
theorem ly_slides (w : World) (base : Nat) (p : Option Addr) (n cap : Nat) (L : List Img) (h : ImgsAt w (.slice p n cap) L) (hn : n = L.length) (hpos : 0 < n) (hb : base ≤ 140737488355328) (hs : base % 16384 = 0) :
    Calls Tryz.prog 15 #[.int .u64 (base : Int), .slice p n cap] w (SlidesEnd w (slidesF base 0 L [])) := by
  obtain ⟨iu, hi, hiz, hiz1, hiz2⟩ := info_parts Tryz.infoU64
  have hcap : n ≤ 549755813888 := by obtain ⟨p', cap', hv, h1, h2, h3⟩ := h; rw [hn]; exact h2.2
  have d0 : ((n : Int) == 0) = false := by rw [beq_eq_false_iff_ne]; omega
  have d0' : (n == 0) = false := by rw [beq_eq_false_iff_ne]; omega
  have dm : Int.tmod (base : Int) 16384 = 0 := by rw [Int.tmod_eq_emod_of_nonneg (by omega)]; omega
  have dm' : (base : Int) % 16384 = 0 := by omega
  have dg : decide ((140737488355328 : Int) < (base : Int)) = false := by rw [decide_eq_false_iff_not]; omega
  have H := hid (And.intro h hn)
  clear h hn hs
  go_enter Tryz.func15, Tryz.ntmps15
  go_wp2_with fail
  clear d0 d0' dm dm' dg
  go_loopw [9, 30] (fun v9 v30 wr => SlR w base L v9 v30 wr) (fun _ i _ => n - (intOf i).toNat)
  case atStart => exact ⟨0, base, [], Nat.zero_le _, rfl, rfl, hb, rfl, World.ownsRow_nil _ _ _ _, heap_alloc_new w _, (Below.refl _ _).alloc (Nat.le_refl _) _⟩
  case round =>
    obtain ⟨k, place, acc, hk, rfl, hF, hpl, hacc, hown, hrow, hbl⟩ := hrel
    have hsz : w.heap.size < wr.heap.size := hrow.lt
    have hn := H.out.2
    by_cases hlt : k < n
    · obtain ⟨m, hm⟩ : ∃ m, L[k]? = some m := ⟨_, List.getElem?_eq_getElem (by omega)⟩
      obtain ⟨b, off, rfl, hb1, hrA, hsg, hmok⟩ := (H.out.1.below hbl).at hm
      have hstep : slidesF place k (L.drop k) acc = if (nextM (lowM m.segs) (highM m.segs) (fixedM k m) place).2.1 ≠ 0 then ([], k, (nextM (lowM m.segs) (highM m.segs) (fixedM k m) place).2.1)
          else slidesF (nextM (lowM m.segs) (highM m.segs) (fixedM k m) place).2.2 (k + 1) (L.drop (k + 1)) (acc ++ [(nextM (lowM m.segs) (highM m.segs) (fixedM k m) place).1]) := by
        rw [List.drop_eq_getElem_cons (by omega)]
        have e : L[k]'(by omega) = m := (List.getElem?_eq_some_iff.1 hm).2
        rw [e, slidesF]
      obtain ⟨fx, hfx⟩ : ∃ fx, fx = fixedM k m := ⟨_, rfl⟩
      rw [← hfx] at hstep
      obtain ⟨nx, hnx⟩ : ∃ nx, nx = nextM (lowM m.segs) (highM m.segs) fx place := ⟨_, rfl⟩
      rw [← hnx] at hstep
      have hcase : (((k : Int) == 0) = false ∧ fx = false) ∨ (((k : Int) == 0) = true ∧ (m.kind == 2) = false ∧ fx = false) ∨ (((k : Int) == 0) = true ∧ (m.kind == 2) = true ∧ (bits .and .u32 (m.flags : Int) 2097152 == 0) = fx) := by
        rw [hfx]
        unfold fixedM
        by_cases hk0 : k = 0
        · have e1 : ((k : Int) == 0) = true := by rw [beq_iff_eq]; omega
          have e2 : decide (k = 0) = true := decide_eq_true hk0
          rw [e1, e2]
          cases hk2 : m.kind == 2 with
          | false => exact .inr (.inl ⟨rfl, rfl, rfl⟩)
          | true => exact .inr (.inr ⟨rfl, rfl, rfl⟩)
        · have e1 : ((k : Int) == 0) = false := by rw [beq_eq_false_iff_ne]; omega
          have e2 : decide (k = 0) = false := decide_eq_false hk0
          rw [e1, e2]
          exact .inl ⟨rfl, rfl⟩
      have hpl' : nx.2.2 ≤ 140737488355328 := by rw [hnx]; exact nextM_place hpl
      have c0 : (wr.alloc (.cells m.I 37)).cell? ⟨wr.heap.size, 0, none⟩ = some (.int .i64 m.kind) := (cell_of_row _ _ 0 _ _ _ (heap_alloc_new wr _)).trans hmok.kind
      have c2 : (wr.alloc (.cells m.I 37)).cell? ⟨wr.heap.size, 2, none⟩ = some (.int .u32 (m.flags : Int)) := (cell_of_row _ _ 2 _ _ _ (heap_alloc_new wr _)).trans hmok.flags
      have fu1 := fullA_block (heap_alloc_new wr (.cells img0 37)) img0_size
      have r1 := rowA_block (heap_alloc_new wr (.cells m.I 37)) hmok.ok.1
      have hIok := hmok.ok
      have hbA : Below wr.heap.size wr (wr.alloc (.cells m.I 37)) := (Below.refl _ _).alloc (Nat.le_refl _) _
      have hC : ∀ b, fx = b → Calls Tryz.prog 32 #[.agg m.I, .bool b, .pointer (some ⟨w.heap.size, 0, none⟩)] (wr.alloc (.cells m.I 37)) (NextEnd (wr.alloc (.cells m.I 37)) w.heap.size nx) := by
        intro b hb
        have := ly_next (wr.alloc (.cells m.I 37)) m.I m.v m.segs hmok.imgV (hsg.below hbA) b w.heap.size place (hrow.below hbA) hpl
        rwa [← hb, ← hnx, hb] at this
      have HX := hid (And.intro hC (And.intro hfx (And.intro hnx hm)))
      have HS := hid (And.intro hstep (And.intro hF (And.intro hacc (And.intro hown (And.intro hbl hbA)))))
      clear hC hfx hnx hstep hF hacc hown hbl hbA hsg hmok hm hn hb
      obtain ⟨sl, er, pl⟩ := nx
      dsimp only at hpl'
      rcases hcase with ⟨dk, hfx0⟩ | ⟨dk, kb, hfx0⟩ | ⟨dk, kb, fb⟩
      · have HX0 := hid hfx0
        clear hfx0
        go_wp2_with fail
        refine (HX.out.1 _ HX0.out).mono ?_
        rintro e w1 ⟨rfl, hrow1, hg1⟩
        have hz1 := hg1.size
        have hlow : Below w.heap.size w w1 := (HS.out.2.2.2.2.1.alloc (Nat.le_of_lt hsz) (.cells m.I 37)).grown hg1 (by simp; omega) (by intro k hk; cases hk; exact Nat.le_refl _)
        have hown1 : w1.ownsRow (w.heap.size + 1) 22 1 u9 acc.length (u64s acc) := (ownsRow_below HS.out.2.2.2.1 HS.out.2.2.2.2.2).kept hg1 (.inr (fun e => by have := (HS.out.2.2.2.1.lt _ e).1; omega))
        have HL := hid (And.intro hlow (And.intro hown1 hrow1))
        clear hlow hown1 hrow1 hg1
        simp at hz1
        by_cases her : er = 0
        · subst her
          obtain ⟨q9, cp9, hv9⟩ := ownsRow_form HL.out.2.1
          have hal := HS.out.2.2.1
          subst hv9
          have hks : acc.length + 1 ≤ 549755813889 := by omega
          have Hal := hid hal
          have HI := hid (And.intro hi (And.intro hiz (And.intro hiz1 hiz2)))
          clear hal hi hiz hiz1 hiz2
          go_wp2_with (at_builtin; refine wpList_append_grew _ rfl _ _ _ _ rfl (w.heap.size + 1) 22 iu _ 1 8 Tryz.underlying48 HI.out.1 HI.out.2.1 HI.out.2.2.1 HI.out.2.2.2 rfl _ acc.length (u64s acc) rfl (ownsRow_below HL.out.2.1 ((Below.refl _ _).alloc (Nat.le_refl _) _)) _ 1 [.int .u64 sl] rfl (Src.laid _ Tryz.underlying48 [.int .u64 sl] 1 rfl (by simp [Value.oneCell']) (0, 0) (by simp)) ?c1a ?c1b ?c1c ?_)
          case c1a => exact Nat.le_trans hks (by decide)
          case c1b => omega
          case c1c => simp; omega
          intro v1 w2 hl1 hgr
          have hgr : Grew w1 w2 _ v1 := Grew.under ((Below.refl _ _).alloc (Nat.le_refl _) _) hgr
          have hb2 : Below w.heap.size w w2 := HL.out.1.trans (hgr.below (by omega) (fun k hk => by have := (HL.out.2.1.lt k hk).1; omega))
          have hr2 : RowAt w2 w.heap.size 22 #[.int .u64 (pl : Int)] := (hgr.block (by omega) (fun e => by have := (HL.out.2.1.lt _ e).1; omega)).trans HL.out.2.2
          have HN := hid (And.intro hl1 (And.intro hb2 hr2))
          clear hl1 hgr hb2 hr2
          go_wp2_with fail
          go_roundw
          case rel =>
            refine ⟨k + 1, pl, acc ++ [sl], by have := H.out.2; omega, by go_num, ?_, hpl', by rw [List.length_append, Hal.out]; rfl, ?_, HN.out.2.2, HN.out.2.1⟩
            · rw [HS.out.2.1, HS.out.1]
              rfl
            · have h9 := HN.out.1
              unfold u64s at h9 ⊢
              rw [List.map_append, List.length_append]
              exact h9
          case measure => simp [intOf]; omega
        · have d1 : (er == 0) = false := by rw [beq_eq_false_iff_ne]; exact her
          have d2 : (er != 0) = true := by rw [bne_iff_ne]; exact her
          have HE := hid her
          clear her
          go_wp2_with fail
          go_ret3
          have hr : slidesF base 0 L [] = ([], k, er) := by
            rw [HS.out.2.1, HS.out.1]
            exact if_pos HE.out
          rw [hr]
          exact ⟨⟨.slice none 0 0, rfl, World.ownsRow_nil _ _ _ _⟩, HL.out.1⟩
      · have HX0 := hid hfx0
        clear hfx0
        go_wp2_with fail
        refine (HX.out.1 _ HX0.out).mono ?_
        rintro e w1 ⟨rfl, hrow1, hg1⟩
        have hz1 := hg1.size
        have hlow : Below w.heap.size w w1 := (HS.out.2.2.2.2.1.alloc (Nat.le_of_lt hsz) (.cells m.I 37)).grown hg1 (by simp; omega) (by intro k hk; cases hk; exact Nat.le_refl _)
        have hown1 : w1.ownsRow (w.heap.size + 1) 22 1 u9 acc.length (u64s acc) := (ownsRow_below HS.out.2.2.2.1 HS.out.2.2.2.2.2).kept hg1 (.inr (fun e => by have := (HS.out.2.2.2.1.lt _ e).1; omega))
        have HL := hid (And.intro hlow (And.intro hown1 hrow1))
        clear hlow hown1 hrow1 hg1
        simp at hz1
        by_cases her : er = 0
        · subst her
          obtain ⟨q9, cp9, hv9⟩ := ownsRow_form HL.out.2.1
          have hal := HS.out.2.2.1
          subst hv9
          have hks : acc.length + 1 ≤ 549755813889 := by omega
          have Hal := hid hal
          have HI := hid (And.intro hi (And.intro hiz (And.intro hiz1 hiz2)))
          clear hal hi hiz hiz1 hiz2
          go_wp2_with (at_builtin; refine wpList_append_grew _ rfl _ _ _ _ rfl (w.heap.size + 1) 22 iu _ 1 8 Tryz.underlying48 HI.out.1 HI.out.2.1 HI.out.2.2.1 HI.out.2.2.2 rfl _ acc.length (u64s acc) rfl (ownsRow_below HL.out.2.1 ((Below.refl _ _).alloc (Nat.le_refl _) _)) _ 1 [.int .u64 sl] rfl (Src.laid _ Tryz.underlying48 [.int .u64 sl] 1 rfl (by simp [Value.oneCell']) (0, 0) (by simp)) ?c2a ?c2b ?c2c ?_)
          case c2a => exact Nat.le_trans hks (by decide)
          case c2b => omega
          case c2c => simp; omega
          intro v1 w2 hl1 hgr
          have hgr : Grew w1 w2 _ v1 := Grew.under ((Below.refl _ _).alloc (Nat.le_refl _) _) hgr
          have hb2 : Below w.heap.size w w2 := HL.out.1.trans (hgr.below (by omega) (fun k hk => by have := (HL.out.2.1.lt k hk).1; omega))
          have hr2 : RowAt w2 w.heap.size 22 #[.int .u64 (pl : Int)] := (hgr.block (by omega) (fun e => by have := (HL.out.2.1.lt _ e).1; omega)).trans HL.out.2.2
          have HN := hid (And.intro hl1 (And.intro hb2 hr2))
          clear hl1 hgr hb2 hr2
          go_wp2_with fail
          go_roundw
          case rel =>
            refine ⟨k + 1, pl, acc ++ [sl], by have := H.out.2; omega, by go_num, ?_, hpl', by rw [List.length_append, Hal.out]; rfl, ?_, HN.out.2.2, HN.out.2.1⟩
            · rw [HS.out.2.1, HS.out.1]
              rfl
            · have h9 := HN.out.1
              unfold u64s at h9 ⊢
              rw [List.map_append, List.length_append]
              exact h9
          case measure => simp [intOf]; omega
        · have d1 : (er == 0) = false := by rw [beq_eq_false_iff_ne]; exact her
          have d2 : (er != 0) = true := by rw [bne_iff_ne]; exact her
          have HE := hid her
          clear her
          go_wp2_with fail
          go_ret3
          have hr : slidesF base 0 L [] = ([], k, er) := by
            rw [HS.out.2.1, HS.out.1]
            exact if_pos HE.out
          rw [hr]
          exact ⟨⟨.slice none 0 0, rfl, World.ownsRow_nil _ _ _ _⟩, HL.out.1⟩
      · go_wp2_with fail
        refine (HX.out.1 _ rfl).mono ?_
        rintro e w1 ⟨rfl, hrow1, hg1⟩
        have hz1 := hg1.size
        have hlow : Below w.heap.size w w1 := (HS.out.2.2.2.2.1.alloc (Nat.le_of_lt hsz) (.cells m.I 37)).grown hg1 (by simp; omega) (by intro k hk; cases hk; exact Nat.le_refl _)
        have hown1 : w1.ownsRow (w.heap.size + 1) 22 1 u9 acc.length (u64s acc) := (ownsRow_below HS.out.2.2.2.1 HS.out.2.2.2.2.2).kept hg1 (.inr (fun e => by have := (HS.out.2.2.2.1.lt _ e).1; omega))
        have HL := hid (And.intro hlow (And.intro hown1 hrow1))
        clear hlow hown1 hrow1 hg1
        simp at hz1
        by_cases her : er = 0
        · subst her
          obtain ⟨q9, cp9, hv9⟩ := ownsRow_form HL.out.2.1
          have hal := HS.out.2.2.1
          subst hv9
          have hks : acc.length + 1 ≤ 549755813889 := by omega
          have Hal := hid hal
          have HI := hid (And.intro hi (And.intro hiz (And.intro hiz1 hiz2)))
          clear hal hi hiz hiz1 hiz2
          go_wp2_with (at_builtin; refine wpList_append_grew _ rfl _ _ _ _ rfl (w.heap.size + 1) 22 iu _ 1 8 Tryz.underlying48 HI.out.1 HI.out.2.1 HI.out.2.2.1 HI.out.2.2.2 rfl _ acc.length (u64s acc) rfl (ownsRow_below HL.out.2.1 ((Below.refl _ _).alloc (Nat.le_refl _) _)) _ 1 [.int .u64 sl] rfl (Src.laid _ Tryz.underlying48 [.int .u64 sl] 1 rfl (by simp [Value.oneCell']) (0, 0) (by simp)) ?c3a ?c3b ?c3c ?_)
          case c3a => exact Nat.le_trans hks (by decide)
          case c3b => omega
          case c3c => simp; omega
          intro v1 w2 hl1 hgr
          have hgr : Grew w1 w2 _ v1 := Grew.under ((Below.refl _ _).alloc (Nat.le_refl _) _) hgr
          have hb2 : Below w.heap.size w w2 := HL.out.1.trans (hgr.below (by omega) (fun k hk => by have := (HL.out.2.1.lt k hk).1; omega))
          have hr2 : RowAt w2 w.heap.size 22 #[.int .u64 (pl : Int)] := (hgr.block (by omega) (fun e => by have := (HL.out.2.1.lt _ e).1; omega)).trans HL.out.2.2
          have HN := hid (And.intro hl1 (And.intro hb2 hr2))
          clear hl1 hgr hb2 hr2
          go_wp2_with fail
          go_roundw
          case rel =>
            refine ⟨k + 1, pl, acc ++ [sl], by have := H.out.2; omega, by go_num, ?_, hpl', by rw [List.length_append, Hal.out]; rfl, ?_, HN.out.2.2, HN.out.2.1⟩
            · rw [HS.out.2.1, HS.out.1]
              rfl
            · have h9 := HN.out.1
              unfold u64s at h9 ⊢
              rw [List.map_append, List.length_append]
              exact h9
          case measure => simp [intOf]; omega
        · have d1 : (er == 0) = false := by rw [beq_eq_false_iff_ne]; exact her
          have d2 : (er != 0) = true := by rw [bne_iff_ne]; exact her
          have HE := hid her
          clear her
          go_wp2_with fail
          go_ret3
          have hr : slidesF base 0 L [] = ([], k, er) := by
            rw [HS.out.2.1, HS.out.1]
            exact if_pos HE.out
          rw [hr]
          exact ⟨⟨.slice none 0 0, rfl, World.ownsRow_nil _ _ _ _⟩, HL.out.1⟩
    · have hkn : k = n := by omega
      have hr : slidesF base 0 L [] = (acc, 0, 0) := by
        rw [hF, List.drop_of_length_le (by omega)]
        rfl
      have HE := hid (And.intro hr (And.intro hown hbl))
      clear hr hown hbl hkn hF hacc hn
      go_wp2_with fail
      go_ret3
      rw [HE.out.1]
      exact ⟨⟨u9, rfl, ownsRow_base HE.out.2.1 (by omega)⟩, HE.out.2.2⟩
end Go.Proofs.YtacmjpkcimjjpaaGreatDoor
