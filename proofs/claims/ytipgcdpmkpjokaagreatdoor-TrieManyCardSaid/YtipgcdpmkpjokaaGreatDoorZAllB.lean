/- Package trie: all exports from a place on. -/
import Derived.Test.YtipgcdpmkpjokaaGreatDoorZRead
import Derived.Test.YtipgcdpmkpjokaaGreatDoorZAllA
import Derived.Deep.DeepCutAuto
namespace Go.Proofs.YtipgcdpmkpjokaaGreatDoor
set_option linter.unusedSimpArgs false
set_option linter.unusedVariables false
open Go.RowKit

/-- What a call of the closure brings about. -/
def DownEnd (w0 W : World) (B c Q : Nat) (l : List UInt8) (walk : List Int) (vo vw : Value) (r : Nat × DownSt) (e : Ending) (W' : World) : Prop :=
  e = .returned (.int .i64 (r.1 : Int)) ∧ ∃ s' vo' vw', DS w0 W' B c Q l s' r.2.met r.2.out walk vo' vw' ∧ Kept W W' c Q vo vo' vw vw' ∧ (r.1 = 0 → s'.bad = false)

theorem placeM_lt (n all : Nat) (h : 0 < all) : placeM n all < all := by unfold placeM; split <;> omega

theorem Tryz.infoExport : (Tryz.prog.info? 28).map (fun i => (i.zero, i.size, i.bytes)) = some (some (.agg #[.string ⟨#[]⟩, .int .i64 0, .bool false, .int .u64 0, .int .u64 0, .int .u64 0, .string ⟨#[]⟩]), 7, 72) := by kernel_rfl
theorem Tryz.infoInt : (Tryz.prog.info? 3).map (fun i => (i.zero, i.size, i.bytes)) = some (some (.int .i64 0), 1, 8) := by kernel_rfl

theorem downEnd {w0 W W' : World} {B c Q : Nat} {l : List UInt8} {walk : List Int} {vo vw vo' vw' : Value} {s' : Cu} {r : Nat × DownSt} (n : Nat) (met : Nat) (out : List Exp) (hr : r = (n, ⟨met, out⟩)) (hd : DS w0 W' B c Q l s' met out walk vo' vw') (hk : Kept W W' c Q vo vo' vw vw') (h0 : n = 0 → s'.bad = false) :
    DownEnd w0 W B c Q l walk vo vw r (.returned (.int .i64 (n : Int))) W' := by
  subst hr
  exact ⟨rfl, s', vo', vw', hd, hk, h0⟩

set_option maxHeartbeats 1000000 in
/-- A name that is too long. -/
theorem all_long (w0 : World) (B c Q : Nat) (l : List UInt8) (f : Nat) (W : World) (at_ : Int) (name : List UInt8) (met : Nat) (out : List Exp) (walk : List Int) (vo vw : Value) (k : Nat)
    (hD : DS w0 W B c Q l ⟨k, false⟩ met out walk vo vw) (h255 : 255 < name.length) (hn6 : name.length ≤ 600) (hmet : met ≤ 8192) :
    Calls Tryz.prog 30 #[.int .i64 at_, .string (mkS name), .pointer (some ⟨Q + 3, 0, none⟩), .pointer (some ⟨Q + 2, 0, none⟩), .pointer (some ⟨Q, 0, none⟩), .pointer (some ⟨B, 0, none⟩), .pointer (some ⟨Q + 1, 0, none⟩), .pointer (some ⟨Q + 4, 0, none⟩)] W
      (DownEnd w0 W B c Q l walk vo vw (downF l f at_ name walk ⟨met, out⟩)) := by
  have m0 : W.cell? ⟨Q + 3, 0, none⟩ = some (.int .i64 (met : Int)) := cell_of_row W (Q + 3) 0 _ _ _ hD.bM
  have mf : W.frozen? ⟨Q + 3, 0, none⟩ = false := frozen_of_row W (Q + 3) 0 _ _ hD.bM
  have H1 := hid (hD.setMet (met + 1))
  have Hn := hid h255
  have hd1 : decide ((255 : Int) < (name.length : Int)) = true := by simp; omega
  have hd2 : decide (255 < name.length) = true := by simp; omega
  clear hD
  go_enter_defers Tryz.func30, Tryz.ntmps30
  go_wp2_with fail
  have h1 := H1.out
  rw [Int.natCast_add] at h1
  exact ⟨.int .i64 10, by simp [results, Tryz.results30, go_sem], downEnd 10 (met + 1) out (downF_name Hn.out) h1.1 h1.2 (fun h => by cases h)⟩

theorem kidsR_to {all : Nat} (h0 : 0 < all) : ∀ (n : Nat) (b : List UInt8) (acc ks : List KidM), kidsR all n b acc = some ks → (∀ x ∈ acc, x.to < all) → ∀ x ∈ ks, x.to < all
  | 0, b, acc, ks, h, ha => by cases h; exact ha
  | n + 1, b, acc, ks, h, ha => by
    rw [kidsR] at h
    cases ht : textR b with
    | none => rw [ht] at h; cases h
    | some p =>
      obtain ⟨e, k⟩ := p
      rw [ht] at h
      dsimp only at h
      cases hu : ulebM (b.drop k) with
      | none => rw [hu] at h; cases h
      | some q =>
        obtain ⟨tv, k2⟩ := q
        rw [hu] at h
        dsimp only at h
        split at h
        · cases h
        · split at h
          · cases h
          · refine kidsR_to h0 n _ _ _ h (fun x hx => ?_)
            rcases List.mem_append.1 hx with h1 | h1
            · exact ha x h1
            · simp at h1; subst h1; exact placeM_lt tv all h0

theorem readM_to {l : List UInt8} {at_ : Nat} {n : NodeM} (h : readM l at_ = some n) (h0 : 0 < l.length) : ∀ x ∈ n.kids, x.to < l.length := by
  unfold readM at h
  cases hu : ulebM (l.drop at_) with
  | none => rw [hu] at h; cases h
  | some p =>
    obtain ⟨size, k⟩ := p
    rw [hu] at h
    dsimp only at h
    split at h
    · cases h
    · split at h
      · cases h
      · split at h
        · cases h
        · split at h
          · cases h
          · rename_i hk
            cases h
            exact kidsR_to h0 _ _ _ _ hk (by simp)

/-- What holds at a round's head: so many children were gone over. -/
def DownRel (w0 W : World) (B c Q : Nat) (l : List UInt8) (walk : List Int) (vo vw : Value) (base : Nat) (kv : Value) (ks : List KidM) (go : KidM → DownSt → Nat × DownSt) (r : Nat × DownSt) (i : Value) (wr : World) : Prop :=
  ∃ (j : Nat) (st : DownSt) (k : Nat) (vo2 vw2 : Value), i = .int .i64 (j : Int) ∧ j ≤ ks.length ∧ DS w0 wr B c Q l ⟨k, false⟩ st.met st.out walk vo2 vw2 ∧ Kept W wr c Q vo vo2 vw vw2 ∧ KF wr base Q kv ks vo2 vw2 ∧ st.met ≤ 8192 ∧ st.out.length ≤ 4096 ∧ eachKid go (ks.drop j) st = r

theorem mkS_append (a b : List UInt8) : mkS a ++ mkS b = mkS (a ++ b) := by
  apply ByteArray.ext
  simp [mkS, ByteArray.data_append]

theorem ownsRow_few {w : World} {base : Nat} {e : TypeId} {size : Nat} {v : Value} {n : Nat} {xs : List Value} (h : w.ownsRow base e size v n xs) : n ≤ 9223372036854775807 := by
  rcases h.2 with ⟨_, h0⟩ | ⟨g3, cap3, cur, h1, _, _, h4, h5, _⟩
  · omega
  · unfold maxLen at h5; omega

theorem cu_good {s : Cu} (h : s.bad = false) : s = ⟨s.at_, false⟩ := by obtain ⟨a, b⟩ := s; simp at h; rw [h]

set_option maxHeartbeats 2000000 in
set_option maxRecDepth 4000 in
theorem all_down (w0 : World) (B c Q : Nat) (l : List UInt8) (hl : l.length ≤ 140737488355328) (hne : l ≠ []) : ∀ (f : Nat) (W : World) (at_ : Int) (name : List UInt8) (met : Nat) (out : List Exp) (walk : List Int) (vo vw : Value) (k : Nat),
    DS w0 W B c Q l ⟨k, false⟩ met out walk vo vw → 257 ≤ name.length + f → walk.length + f ≤ 257 → name.length ≤ 600 → met ≤ 8192 → out.length ≤ 4096 → at_ < l.length →
    Calls Tryz.prog 30 #[.int .i64 at_, .string (mkS name), .pointer (some ⟨Q + 3, 0, none⟩), .pointer (some ⟨Q + 2, 0, none⟩), .pointer (some ⟨Q, 0, none⟩), .pointer (some ⟨B, 0, none⟩), .pointer (some ⟨Q + 1, 0, none⟩), .pointer (some ⟨Q + 4, 0, none⟩)] W
      (DownEnd w0 W B c Q l walk vo vw (downF l f at_ name walk ⟨met, out⟩)) := by
  intro f
  induction f with
  | zero =>
    intro W at_ name met out walk vo vw k hD hn hwk hn6 hmet hout hat
    exact all_long w0 B c Q l 0 W at_ name met out walk vo vw k hD (by omega) hn6 hmet
  | succ f ih =>
    intro W at_ name met out walk vo vw k hD hn hwk hn6 hmet hout hat
    by_cases h255 : 255 < name.length
    · exact all_long w0 B c Q l (f + 1) W at_ name met out walk vo vw k hD h255 hn6 hmet
    have m0 : W.cell? ⟨Q + 3, 0, none⟩ = some (.int .i64 (met : Int)) := cell_of_row W (Q + 3) 0 _ _ _ hD.bM
    have mf : W.frozen? ⟨Q + 3, 0, none⟩ = false := frozen_of_row W (Q + 3) 0 _ _ hD.bM
    have HI := hid ih
    have H1 := hid (hD.setMet (met + 1))
    have Hn := hid h255
    have hd1 : decide ((255 : Int) < (name.length : Int)) = false := by simp; omega
    have hd2 : decide (255 < name.length) = false := by simp; omega
    clear ih hD h255
    go_enter_defers Tryz.func30, Tryz.ntmps30
    go_upto_region 4 with fail
    have h1 := H1.out
    rw [Int.natCast_add] at h1
    obtain ⟨W1, hW1⟩ : ∃ W1, W1 = W.setCell ⟨Q + 3, 0, none⟩ (.int .i64 ((met : Int) + 1)) := ⟨_, rfl⟩
    have hc1 : (((1 : Nat) : Int)) = 1 := rfl
    rw [hc1, ← hW1] at h1
    rw [← hW1]
    have H2 := hid h1
    clear h1 hW1 hc1 m0 mf hd1 hd2 H1
    have w0c : W1.cell? ⟨Q + 2, 0, none⟩ = some vw := cell_of_row W1 (Q + 2) 0 _ _ _ H2.out.1.bW
    have m0 : W1.cell? ⟨Q + 3, 0, none⟩ = some (.int .i64 ((met : Int) + 1)) := cell_of_row W1 (Q + 3) 0 _ _ _ H2.out.1.bM
    obtain ⟨wp, wcap, hvw⟩ := ownsRow_form H2.out.1.wal
    subst hvw
    obtain ⟨op, ocap, hvo⟩ := ownsRow_form H2.out.1.own
    subst hvo
    have Hhas := hid (has_int W1 (Q + 5) 3 _ walk at_ H2.out.1.wal (by omega))
    obtain ⟨hb, hhb⟩ : ∃ hb, hb = walk.contains at_ := ⟨_, rfl⟩
    rw [← hhb] at Hhas
    have Hhb := hid hhb
    clear hhb
    go_wp2_with fail
    refine Hhas.out.mono ?_
    rintro e w' ⟨rfl, rfl⟩
    cases hb with
    | true =>
      go_wp2_with fail
      exact ⟨.int .i64 12, by simp [results, Tryz.results30, go_sem], downEnd 12 (met + 1) out (downF_walk Hn.out Hhb.out.symm) H2.out.1 H2.out.2 (fun h => by cases h)⟩
    | false =>
      have hnw : ¬ walk.contains at_ = true := by rw [← Hhb.out]; simp
      have HW := hid hnw
      clear hnw
      by_cases hmany : 8192 < met + 1
      · have HM := hid hmany
        have hd1 : decide ((8192 : Int) < (met : Int) + 1) = true := by simp; omega
        go_wp2_with fail
        exact ⟨.int .i64 11, by simp [results, Tryz.results30, go_sem], downEnd 11 (met + 1) out (downF_many Hn.out HW.out HM.out) H2.out.1 H2.out.2 (fun h => by cases h)⟩
      have HM := hid hmany
      have hd1 : decide ((8192 : Int) < (met : Int) + 1) = false := by simp; omega
      clear hmany
      by_cases hneg : at_ < 0
      · have HG := hid hneg
        have hd2 : decide (at_ < 0) = true := by simp; omega
        go_wp2_with fail
        exact ⟨.int .i64 12, by simp [results, Tryz.results30, go_sem], downEnd 12 (met + 1) out (downF_neg Hn.out HW.out HM.out HG.out) H2.out.1 H2.out.2 (fun h => by cases h)⟩
      obtain ⟨a, rfl⟩ : ∃ a : Nat, at_ = a := ⟨at_.toNat, by omega⟩
      have hd2 : decide ((a : Int) < 0) = false := by simp
      have c0 : W1.cell? ⟨Q, 0, none⟩ = some (.pointer (some ⟨c, 0, none⟩)) := cell_of_row W1 Q 0 _ _ _ H2.out.1.bC
      obtain ⟨bp, bcap, hB⟩ := H2.out.1.bB
      have b0 : W1.cell? ⟨B, 0, none⟩ = some (.slice bp l.length bcap) := cell_of_row W1 B 0 _ _ _ hB
      have HG := hid (show ¬ (a : Int) < 0 from hneg)
      clear hneg hB
      go_wp2_with fail
      refine (trie_read W1 c k a l hl hne H2.out.1.cur H2.out.1.et (by omega)).mono ?_
      rintro e W2 ⟨nv, b, rfl, ⟨s2, hc2, hb2⟩, hg2, x, en, kv, rfl, ⟨kp, kn, kc, rfl⟩, hR⟩
      have h2 := H2.out.1.call hc2 hg2
      have h3 := h2.1.below ((Below.refl _ _).alloc (Nat.le_refl _) (.cells (nodeCells x en (.slice kp kn kc)) 70))
      have hX : RowAt (W2.alloc (.cells (nodeCells x en (.slice kp kn kc)) 70)) W2.heap.size 70 _ := heap_alloc_new W2 _
      have hXQ : Q + 5 ≤ W2.heap.size := h2.1.top
      have hXo := fun e => Nat.lt_irrefl _ (World.ownsRow.lt h2.1.own W2.heap.size e).2
      have hXw := fun e => Nat.lt_irrefl _ (World.ownsRow.lt h2.1.wal W2.heap.size e).2
      have hWX : W.heap.size ≤ W2.heap.size := Nat.le_trans H2.out.2.size h2.2.size
      have H3 := hid (And.intro h3.1 (And.intro (H2.out.2.trans (h2.2.trans h3.2)) (And.intro hXQ (And.intro hXo (And.intro hXw hWX)))))
      clear hc2 hg2 h2 h3 w0c m0 c0 b0 hd1 hd2 hXQ hXo hXw hWX
      cases hr : readM l a with
      | none =>
        rw [hr] at hR
        obtain rfl : b = false := hR
        have Hr := hid hr
        clear hr
        go_wp2_with fail
        exact ⟨.int .i64 12, by simp [results, Tryz.results30, go_sem], downEnd 12 (met + 1) out (downF_none Hn.out HW.out HM.out (by have := HG.out; omega) (by rw [Int.toNat_natCast]; exact Hr.out)) H3.out.1 H3.out.2.1 (fun h => by cases h)⟩
      | some n =>
        rw [hr] at hR
        obtain ⟨rfl, hxx, hen, hkb⟩ := hR
        have Hxe := hid (And.intro hxx hen)
        clear hxx hen
        have Hr := hid (And.intro hr (hb2 rfl))
        have hkb0 := hkb
        have HK := hid (ownsRow_below hkb ((Below.refl _ _).alloc (Nat.le_refl _) (.cells (nodeCells x en (.slice kp kn kc)) 70)))
        clear hr hkb hb2
        have hQ4 : Q + 5 ≤ W1.heap.size := H2.out.1.top
        have hk0 : KF (W2.alloc (.cells (nodeCells x en (.slice kp kn kc)) 70)) W1.heap.size Q (.slice kp kn kc) n.kids (.slice op out.length ocap) (.slice wp walk.length wcap) :=
          ⟨HK.out, hQ4, fun j h1 h2 => by have a1 := (World.ownsRow.lt HK.out j h1).1; have a2 := (World.ownsRow.lt H2.out.1.own j h2).2; omega, fun j h1 h2 => by have a1 := (World.ownsRow.lt HK.out j h1).1; have a2 := (World.ownsRow.lt H2.out.1.wal j h2).2; omega⟩
        have hkX : (Value.slice kp kn kc).ownBlock ≠ some W2.heap.size := fun e => by have a1 := (World.ownsRow.lt hkb0 _ e).2; omega
        have HF := hid (And.intro hk0 (And.intro hX hkX))
        clear hk0 hX hkX hkb0 HK hQ4
        go_upto_region 13 with fail
        obtain ⟨X, hXe⟩ : ∃ X, X = W2.heap.size := ⟨_, rfl⟩
        obtain ⟨W3, hW3⟩ : ∃ W3, W3 = W2.alloc (.cells (nodeCells x en (.slice kp kn kc)) 70) := ⟨_, rfl⟩
        rw [← hXe, ← hW3] at H3 HF
        rw [← hXe]
        rw [show W2.alloc (.cells #[.string (mkS x.name), .int .i64 x.kind, .bool x.weak, .int .u64 (x.value : Int), .int .u64 (x.resolver : Int), .int .u64 (x.ordinal : Int), .string (mkS x.other), .bool en, .slice kp kn kc] 70) = W3 from hW3.symm]
        clear hXe hW3
        have x7 : W3.cell? ⟨X, 7, none⟩ = some (.bool en) := cell_of_row W3 X 7 _ _ _ HF.out.2.1
        go_upto_if 43 with fail
        go_cut [] from 44 to 51 (fun wx => ∃ vo', DS w0 wx B c Q l s2 (met + 1) (outN n name out) walk vo' (.slice wp walk.length wcap) ∧ Kept W wx c Q (.slice op out.length ocap) vo' (.slice wp walk.length wcap) (.slice wp walk.length wcap) ∧ KF wx W1.heap.size Q (.slice kp kn kc) n.kids vo' (.slice wp walk.length wcap) ∧ wx.cell? ⟨X, 8, none⟩ = some (.slice kp kn kc))
        case first =>
          cases en with
          | false =>
            go_wp2_with fail
            go_meet
            refine ⟨_, ?_, H3.out.2.1, HF.out.1, ?_⟩
            · have e : outN n name out = out := by unfold outN; rw [← Hxe.out.2]; rfl
              rw [e]; exact H3.out.1
            · exact cell_of_row W3 X 8 _ _ _ HF.out.2.1
          | true =>
            have x0 : W3.cell? ⟨X, 0, none⟩ = some (.string (mkS x.name)) := cell_of_row W3 X 0 _ _ _ HF.out.2.1
            have xf : W3.frozen? ⟨X, 0, none⟩ = false := frozen_of_row W3 X 0 _ _ HF.out.2.1
            have h4 := H3.out.1.setK (i := 0) H3.out.2.2.1 H3.out.2.2.2.1 H3.out.2.2.2.2.1 (.string (mkS name))
            have hX4 : RowAt (W3.setCell ⟨X, 0, none⟩ (.string (mkS name))) X 70 (nodeCells { x with name := name } true (.slice kp kn kc)) := by
              unfold RowAt; rw [heap_setCell_same _ _ _ _ _ _ HF.out.2.1]; rfl
            have hkf4 : KF (W3.setCell ⟨X, 0, none⟩ (.string (mkS name))) W1.heap.size Q (.slice kp kn kc) n.kids (.slice op out.length ocap) (.slice wp walk.length wcap) :=
              ⟨ownsRow_setOther HF.out.1.own HF.out.2.2 _, HF.out.1.far, HF.out.1.ao, HF.out.1.aw⟩
            go_upto_region 15 with fail
            obtain ⟨W4, hW4⟩ : ∃ W4, W4 = W3.setCell ⟨X, 0, none⟩ (.string (mkS name)) := ⟨_, rfl⟩
            rw [← hW4] at h4 hX4 hkf4 ⊢
            have hk4 : Kept W W4 c Q (.slice op out.length ocap) (.slice op out.length ocap) (.slice wp walk.length wcap) (.slice wp walk.length wcap) := by
              rw [hW4]; exact H3.out.2.1.setFar H3.out.2.2.2.2.2 _
            obtain ⟨y, hy⟩ : ∃ y : Exp, y = { x with name := name } := ⟨_, rfl⟩
            rw [← hy] at hX4
            have o0 : W4.cell? ⟨Q + 1, 0, none⟩ = some (.slice op out.length ocap) := cell_of_row W4 (Q + 1) 0 _ _ _ h4.bO
            have x0 : W4.cell? ⟨X, 0, none⟩ = some (.string (mkS y.name)) := cell_of_row W4 X 0 _ _ _ hX4
            have x1 : W4.cell? ⟨X, 1, none⟩ = some (.int .i64 y.kind) := cell_of_row W4 X 1 _ _ _ hX4
            have x2 : W4.cell? ⟨X, 2, none⟩ = some (.bool y.weak) := cell_of_row W4 X 2 _ _ _ hX4
            have x3 : W4.cell? ⟨X, 3, none⟩ = some (.int .u64 (y.value : Int)) := cell_of_row W4 X 3 _ _ _ hX4
            have x4 : W4.cell? ⟨X, 4, none⟩ = some (.int .u64 (y.resolver : Int)) := cell_of_row W4 X 4 _ _ _ hX4
            have x5 : W4.cell? ⟨X, 5, none⟩ = some (.int .u64 (y.ordinal : Int)) := cell_of_row W4 X 5 _ _ _ hX4
            have x6 : W4.cell? ⟨X, 6, none⟩ = some (.string (mkS y.other)) := cell_of_row W4 X 6 _ _ _ hX4
            have htop := h4.top
            obtain ⟨i0, hi, hz0, hz1, hz2⟩ := info_parts Tryz.infoExport
            have H4 := hid (And.intro h4 (And.intro hX4 (And.intro hkf4 (And.intro hk4 (And.intro hi (And.intro hz0 (And.intro hz1 (And.intro hz2 hy))))))))
            clear h4 hX4 hkf4 hW4 hk4 hi hz0 hz1 hz2 hy xf x7
            go_wp2_with (at_builtin; refine wpList_append_grew _ rfl _ _ _ _ rfl (Q + 5) 28 i0 _ 7 72 Tryz.underlying23 H4.out.2.2.2.2.1 H4.out.2.2.2.2.2.1 H4.out.2.2.2.2.2.2.1 H4.out.2.2.2.2.2.2.2.1 rfl _ out.length (expCells out) rfl (ownsRow_below H4.out.1.own ((Below.refl _ _).alloc (Nat.le_refl _) _)) _ 1 y.cells rfl (Src.laid _ Tryz.underlying23 y.cells 1 rfl (by simp [Exp.cells, Value.oneCell']) (0, 0) (by simp)) ?c3 ?c4 ?c5 ?_)
            case c3 => exact Nat.le_trans (show out.length + 1 ≤ 5000 by omega) (by decide)
            case c4 => omega
            case c5 => simp; omega
            intro v1 W5 hl1 hg1
            have hg1 : Grew W4 W5 _ v1 := Grew.under ((Below.refl _ _).alloc (Nat.le_refl _) _) hg1
            obtain ⟨vp, vc, hv1⟩ := ownsRow_form hl1
            subst hv1
            have o0' : W5.cell? ⟨Q + 1, 0, none⟩ = some (.slice op out.length ocap) := hg1.cell o0 (H4.out.1.vo_ne (by omega))
            have of' : W5.frozen? ⟨Q + 1, 0, none⟩ = false := frozen_of_row W5 (Q + 1) 0 _ _ ((hg1.block (by omega) (H4.out.1.vo_ne (by omega))).trans H4.out.1.bO)
            have h5 := H4.out.1.putOut (x := y) hg1 (by rw [expCells_snoc, List.length_append]; exact hl1)
            have x8 : W5.cell? ⟨X, 8, none⟩ = some (.slice kp kn kc) := hg1.cell (cell_of_row W4 X 8 _ _ _ H4.out.2.1) H3.out.2.2.2.1
            have H5 := hid (And.intro h5 x8)
            clear hl1 hg1 o0 h5 x0 x1 x2 x3 x4 x5 x6 x8
            go_wp2_with fail
            go_meet
            have e : outN n name out = out ++ [y] := by unfold outN; rw [← Hxe.out.2, ← Hxe.out.1, H4.out.2.2.2.2.2.2.2.2]; rfl
            have hXQ := H3.out.2.2.1
            refine ⟨_, ?_, H4.out.2.2.2.1.trans H5.out.1.2, H4.out.2.2.1.kept H5.out.1.2 H4.out.1.bc.2.2, ?_⟩
            · rw [e]; exact H5.out.1.1
            · rw [World.cell?_setCell_other _ _ _ _ (by simp)]; exact H5.out.2
        case rest =>
          obtain ⟨vo1, hd, hk, hkf, x8⟩ := hcut
          obtain ⟨O, hO⟩ : ∃ O, O = outN n name out := ⟨_, rfl⟩
          rw [← hO] at hd
          obtain ⟨oq, oc, ho⟩ := ownsRow_form hd.own
          subst ho
          have hOl : O.length ≤ 4097 := by rw [hO]; have := outN_len n name out; omega
          have o0 : wc.cell? ⟨Q + 1, 0, none⟩ = some (.slice oq O.length oc) := cell_of_row wc (Q + 1) 0 _ _ _ hd.bO
          have v0 : wc.cell? ⟨Q + 2, 0, none⟩ = some (.slice wp walk.length wcap) := cell_of_row wc (Q + 2) 0 _ _ _ hd.bW
          have htop := hd.top
          have H6 := hid (And.intro hd (And.intro hk (And.intro hkf hO)))
          clear hd hk hkf hO x7
          by_cases h6 : 4096 < O.length
          · have hd1 : decide ((4096 : Int) < (O.length : Int)) = true := by simp; omega
            have hd2 : decide (4096 < O.length) = true := by simp; omega
            have H7 := hid h6
            clear h6
            go_wp2_with fail
            exact ⟨.int .i64 11, by simp [results, Tryz.results30, go_sem], downEnd 11 (met + 1) O (by rw [downF_most Hn.out HW.out HM.out (by have := HG.out; omega) (by rw [Int.toNat_natCast]; exact Hr.out.1) (by rw [← H6.out.2.2.2]; exact H7.out), H6.out.2.2.2]) H6.out.1 H6.out.2.1 (fun h => by cases h)⟩
          · have hd1 : decide ((4096 : Int) < (O.length : Int)) = false := by simp; omega
            have hd2 : decide (4096 < O.length) = false := by simp; omega
            have H7 := hid h6
            clear h6
            have hmf : ∀ (fn : Fn) (first cap : Array Value) (w : World), (Instr.makeFunc fn first cap).run Tryz.prog w = .ok (.func fn first cap) w := fun _ _ _ _ => rfl
            obtain ⟨i0, hi, hz0, hz1, hz2⟩ := info_parts Tryz.infoInt
            have H8 := hid (And.intro hi (And.intro hz0 (And.intro hz1 hz2)))
            clear hi hz0 hz1 hz2
            go_wp2_with (at_builtin; refine wpList_append_grew _ rfl _ _ _ _ rfl (Q + 5) 3 i0 _ 1 8 Tryz.underlying61 H8.out.1 H8.out.2.1 H8.out.2.2.1 H8.out.2.2.2 rfl _ walk.length (intCells walk) rfl (ownsRow_below H6.out.1.wal ((Below.refl _ _).alloc (Nat.le_refl _) _)) _ 1 [.int .i64 (a : Int)] rfl (Src.laid _ Tryz.underlying61 [.int .i64 (a : Int)] 1 rfl (by simp [Value.oneCell']) (0, 0) (by simp)) ?c3 ?c4 ?c5 ?_)
            case c3 => exact Nat.le_trans (show walk.length + 1 ≤ 5000 by omega) (by decide)
            case c4 => omega
            case c5 => simp; omega
            intro v1 W5 hl1 hg1
            have hg1 : Grew wc W5 _ v1 := Grew.under ((Below.refl _ _).alloc (Nat.le_refl _) _) hg1
            obtain ⟨vp, vc, hv1⟩ := ownsRow_form hl1
            subst hv1
            have v0' : W5.cell? ⟨Q + 2, 0, none⟩ = some (.slice wp walk.length wcap) := hg1.cell v0 (H6.out.1.vw_ne (by omega))
            have vf' : W5.frozen? ⟨Q + 2, 0, none⟩ = false := frozen_of_row W5 (Q + 2) 0 _ _ ((hg1.block (by omega) (H6.out.1.vw_ne (by omega))).trans H6.out.1.bW)
            have h5 := H6.out.1.putWalk (a := (a : Int)) hg1 (by unfold intCells at hl1 ⊢; rw [List.map_append, List.length_append]; exact hl1)
            have x8' : W5.cell? ⟨X, 8, none⟩ = some (.slice kp kn kc) := hg1.cell x8 H3.out.2.2.2.2.1
            have H9 := hid h5
            clear hl1 hg1 v0 h5 x8 o0 hd1 hd2
            go_wp2_with fail
            have hres : downF l (f + 1) (a : Int) name walk ⟨met, out⟩ = eachKid (fun k s => downF l f k.to (name ++ k.edge) (walk ++ [(a : Int)]) s) n.kids ⟨met + 1, O⟩ := by
              rw [downF_kids Hn.out HW.out HM.out (by have := HG.out; omega) (by rw [Int.toNat_natCast]; exact Hr.out.1) (by rw [← H6.out.2.2.2]; exact H7.out), H6.out.2.2.2]
            obtain ⟨go, hgo⟩ : ∃ go : KidM → DownSt → Nat × DownSt, go = fun k s => downF l f k.to (name ++ k.edge) (walk ++ [(a : Int)]) s := ⟨_, rfl⟩
            rw [← hgo] at hres
            obtain ⟨r, hr⟩ : ∃ r, r = downF l (f + 1) (a : Int) name walk ⟨met, out⟩ := ⟨_, rfl⟩
            have HRr := hid hr
            rw [← hr] at hres ⊢
            obtain ⟨ks, hks⟩ : ∃ ks, ks = n.kids := ⟨_, rfl⟩
            have hkne := (readM_kids Hr.out.1).1
            have hkto := readM_to Hr.out.1 (List.length_pos_iff.2 hne)
            have hkf6 := H6.out.2.2.1.kept H9.out.2 H6.out.1.bc.2.2
            rw [← hks] at hres hkne hkto hkf6
            have hksl := ownsRow_few hkf6.own
            obtain ⟨ka, kcp, hka⟩ := ownsRow_form hkf6.own
            obtain ⟨hk1, hk2, hk3⟩ := Value.slice.inj hka
            subst hk1
            subst hk2
            subst hk3
            have HGo := hid (And.intro hgo (And.intro hkne (And.intro hkto hres)))
            have H10 := hid (And.intro (H6.out.2.1.trans H9.out.2) hkf6)
            clear hgo hr hks hkne hkto hres hkf6 hka v0' vf'
            go_loopw [63] (fun i wr => DownRel w0 W B c Q l (walk ++ [(a : Int)]) (.slice op out.length ocap) (.slice wp walk.length wcap) W1.heap.size (.slice kp ks.length kc) ks go r i wr) (fun i _ => ks.length - (intOf i).toNat)
            case atStart => exact ⟨0, ⟨met + 1, O⟩, s2.at_, _, _, rfl, Nat.zero_le _, by rw [← cu_good Hr.out.2]; exact H9.out.1, H10.out.1, H10.out.2, by show met + 1 ≤ 8192; have := HM.out; omega, by show O.length ≤ 4096; have := H7.out; omega, by rw [List.drop_zero]; exact HGo.out.2.2.2.symm⟩
            case round =>
              obtain ⟨j, st, kk, vo2, vw2, rfl, hj, hd, hk, hkf, hm2, ho2, he⟩ := hrel
              by_cases hlt : j < ks.length
              · obtain ⟨kd, hkd⟩ : ∃ kd, ks[j]? = some kd := ⟨_, List.getElem?_eq_getElem hlt⟩
                obtain ⟨g, gc, hg, hgl, e0, e1⟩ := hkf.at hkd
                obtain ⟨hg1, -, hg3⟩ := Value.slice.inj hg
                subst hg1
                subst hg3
                have hdrop : ks.drop j = kd :: ks.drop (j + 1) := by
                  obtain ⟨hl2, rfl⟩ := List.getElem?_eq_some_iff.1 hkd
                  exact List.drop_eq_getElem_cons hl2
                rw [hdrop] at he
                have hmem := List.mem_of_getElem? hkd
                have hkn := HGo.out.2.1 kd hmem
                have hkt := HGo.out.2.2.1 kd hmem
                have d0 : wr.cell? ⟨Q + 4, 0, none⟩ = some (.func (.func 30) #[] (caps B Q)) := cell_of_row wr (Q + 4) 0 _ _ _ hd.bD
                have htop2 := hd.top
                have hltz : decide ((j : Int) < (ks.length : Int)) = true := by simp; omega
                obtain ⟨dd, hdd⟩ : ∃ dd, ks.length = j + 1 + dd := ⟨ks.length - j - 1, by omega⟩
                have Hlt := hid hdd
                clear hdd
                have hcat : ¬ 9223372036854775807 < name.length + kd.edge.length := by have h5 := Hn.out; have h6 := hkn.2; omega
                have H11 := hid (And.intro hd (And.intro hk (And.intro hkf (And.intro he (And.intro hkn hkt)))))
                clear hd hk hkf he hkn hkt hdrop hkd hmem hg
                go_wp2_with fail
                have h12 := H11.out.1.below ((Below.refl _ _).alloc (Nat.le_refl _) (.cells #[.string (mkS kd.edge), .int .i64 kd.to] 74))
                rw [mkS_append]
                have hnl : (name ++ kd.edge).length ≤ 600 := by rw [List.length_append]; have h5 := Hn.out; have h6 := H11.out.2.2.2.2.1.2; omega
                have hnf : 257 ≤ (name ++ kd.edge).length + f := by rw [List.length_append]; have h6 := List.length_pos_iff.2 H11.out.2.2.2.2.1.1; omega
                refine (HI.out _ kd.to (name ++ kd.edge) st.met st.out (walk ++ [(a : Int)]) vo2 vw2 kk h12.1 hnf (by simp; omega) hnl hm2 ho2 H11.out.2.2.2.2.2).mono ?_
                rintro e W8 ⟨rfl, s3, vo3, vw3, hd3, hk3, h03⟩
                have hgr : go kd st = downF l f kd.to (name ++ kd.edge) (walk ++ [(a : Int)]) ⟨st.met, st.out⟩ := by rw [HGo.out.1]
                have hmet3 := downF_met l f kd.to (name ++ kd.edge) (walk ++ [(a : Int)]) ⟨st.met, st.out⟩ hm2
                have hout3 := downF_few l f kd.to (name ++ kd.edge) (walk ++ [(a : Int)]) ⟨st.met, st.out⟩ ho2
                obtain ⟨r3, hr3⟩ : ∃ r3, r3 = downF l f kd.to (name ++ kd.edge) (walk ++ [(a : Int)]) ⟨st.met, st.out⟩ := ⟨_, rfl⟩
                rw [← hr3] at hd3 h03 hgr hmet3 hout3 ⊢
                have hk4 := H11.out.2.1.trans (h12.2.trans hk3)
                have hkf4 := H11.out.2.2.1.kept (h12.2.trans hk3) H11.out.1.bc.2.2
                have H13 := hid (And.intro hd3 (And.intro h03 (And.intro hgr (And.intro hmet3 (And.intro hout3 (And.intro hk4 hkf4))))))
                clear hd3 h03 hgr hmet3 hout3 hk4 hkf4 hr3 h12 hk3 hcat e0 e1 d0 hltz hnl hnf
                by_cases hz : r3.1 = 0
                · have hb3 : ((r3.1 : Int) != 0) = false := by rw [hz]; rfl
                  have Hz := hid hz
                  clear hz
                  go_wp2
                  go_roundw
                  case rel =>
                    have hlt := Hlt.out
                    refine ⟨j + 1, r3.2, s3.at_, vo3, vw3, by go_num, by omega, ?_, H13.out.2.2.2.2.2.1, H13.out.2.2.2.2.2.2, H13.out.2.2.2.1 Hz.out, H13.out.2.2.2.2.1 Hz.out, ?_⟩
                    · rw [← cu_good (H13.out.2.1 Hz.out)]; exact H13.out.1
                    · have he := H11.out.2.2.2.1
                      rw [eachKid_on (by rw [H13.out.2.2.1]; exact Hz.out), H13.out.2.2.1] at he
                      exact he
                  case measure => have hlt := Hlt.out; simp [intOf]; omega
                · have hb3 : ((r3.1 : Int) != 0) = true := by rw [bne_iff_ne]; omega
                  have Hz := hid hz
                  clear hz
                  go_wp2_with fail
                  have hd4 := H13.out.1
                  refine leaves_cons (f := 33) (args := #[.pointer (some ⟨Q + 2, 0, none⟩)]) (by simp) (by simp [go_sem]) ?_
                  obtain ⟨g2, cap2, hv2⟩ := ownsRow_form hd4.wal
                  have hwl : (walk ++ [(a : Int)]).length = walk.length + 1 := by simp
                  rw [hwl] at hv2
                  subst hv2
                  have hcap2 : walk.length + 1 ≤ cap2 := by
                    rcases hd4.wal.2 with ⟨_, h0⟩ | ⟨g3, cap3, cur, h1, _, _, h4, _⟩
                    · simp at h0
                    · obtain ⟨-, -, h1c⟩ := Value.slice.inj h1
                      rw [h1c, ← hwl]; exact h4
                  have hpop := hd4.popWalk
                  refine (all_pop (Q + 2) (walk.length + 1) cap2 g2 .returning W8 (cell_of_row W8 (Q + 2) 0 _ _ _ hd4.bW) (frozen_of_row W8 (Q + 2) 0 _ _ hd4.bW) (by omega) hcap2 (by omega)).mono ?_
                  rintro e u' w'' ⟨rfl, rfl, rfl⟩
                  have he := H11.out.2.2.2.1
                  rw [eachKid_stop (by rw [H13.out.2.2.1]; exact Hz.out), H13.out.2.2.1] at he
                  exact ⟨.int .i64 r3.1, by simp [results, Tryz.results30, go_sem], downEnd r3.1 r3.2.met r3.2.out he.symm hpop.1 (H13.out.2.2.2.2.2.1.trans hpop.2) (fun h => absurd h Hz.out)⟩
              · have hltz : decide ((j : Int) < (ks.length : Int)) = false := by simp; omega
                obtain rfl : j = ks.length := by omega
                have H11 := hid (And.intro hd (And.intro hk he))
                clear hd hk hkf he
                go_wp2_with fail
                have hd4 := H11.out.1
                refine leaves_cons (f := 33) (args := #[.pointer (some ⟨Q + 2, 0, none⟩)]) (by simp) (by simp [go_sem]) ?_
                obtain ⟨g2, cap2, hv2⟩ := ownsRow_form hd4.wal
                have hwl : (walk ++ [(a : Int)]).length = walk.length + 1 := by simp
                rw [hwl] at hv2
                subst hv2
                have hcap2 : walk.length + 1 ≤ cap2 := by
                  rcases hd4.wal.2 with ⟨_, h0⟩ | ⟨g3, cap3, cur, h1, _, _, h4, _⟩
                  · simp at h0
                  · obtain ⟨-, -, h1c⟩ := Value.slice.inj h1
                    rw [h1c, ← hwl]; exact h4
                have hpop := hd4.popWalk
                refine (all_pop (Q + 2) (walk.length + 1) cap2 g2 .returning wr (cell_of_row wr (Q + 2) 0 _ _ _ hd4.bW) (frozen_of_row wr (Q + 2) 0 _ _ hd4.bW) (by omega) hcap2 (by omega)).mono ?_
                rintro e u' w'' ⟨rfl, rfl, rfl⟩
                have he := H11.out.2.2
                rw [List.drop_length] at he
                exact ⟨.int .i64 0, by simp [results, Tryz.results30, go_sem], downEnd 0 st.met st.out (HRr.out.symm.trans he.symm) hpop.1 (H11.out.2.1.trans hpop.2) (fun _ => rfl)⟩
end Go.Proofs.YtipgcdpmkpjokaaGreatDoor
