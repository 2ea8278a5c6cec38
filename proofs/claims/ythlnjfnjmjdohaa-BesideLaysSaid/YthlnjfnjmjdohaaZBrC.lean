/- The document's bytes of pieces: Cells. -/
import Derived.Test.YthlnjfnjmjdohaaZBrB
namespace Go.Proofs.Ythlnjfnjmjdohaa
set_option linter.unusedSimpArgs false
set_option linter.unusedVariables false
open Go.RowKit

def czC (c : Cz) : List Value := [.int .u64 (c.at_ : Int), .int .i64 c.prot, .int .u8 (c.b.toNat : Int)]
theorem czLen (c : Cz) : (czC c).length = 3 := rfl
theorem infoC1 : (Try.prog.info? 63).map (fun i => (i.zero, i.size, i.bytes)) = some (some (.agg #[.int .u64 0, .int .i64 0, .int .u8 0]), 3, 24) := by kernel_rfl
/-- Bytes of the call's own. -/
def OwnC (W : World) (B : Nat) (v : Value) (l : List Cz) : Prop := W.ownsRow B 63 3 v l.length (l.flatMap czC)
def CellsEnd (w : World) (L : List Pz) (e : Ending) (w' : World) : Prop :=
  ∃ v, e = .returned (.tuple #[v, .bool (mayZ L)]) ∧ Below w.heap.size w w' ∧ OwnC w' w.heap.size v (if mayZ L = true then cellsZ L else [])
theorem cellsZ_take {l : List PzV} {k : Nat} {x : PzV} (h : l[k]? = some x) : cellsZ ((l.take (k + 1)).map PzV.m) = cellsZ ((l.take k).map PzV.m) ++ cellsAt x.prot x.at_ x.bytes := by
  unfold cellsZ
  rw [List.take_add_one, h, List.map_append, List.flatMap_append]
  simp [Pz.cells, PzV.m]
theorem cellsZ_le {l : List PzV} (k : Nat) : (cellsZ ((l.take k).map PzV.m)).length ≤ (cellsZ (l.map PzV.m)).length := by
  conv => rhs; rw [← List.take_append_drop k l]
  unfold cellsZ
  rw [List.map_append, List.flatMap_append, List.length_append]
  omega
theorem cellsAt_snoc (q : Int) (a : Nat) {l : List UInt8} {j : Nat} {b : UInt8} (h : l[j]? = some b) : cellsAt q a (l.take (j + 1)) = cellsAt q a (l.take j) ++ [⟨a + j, q, b⟩] := by
  have hj := (List.getElem?_eq_some_iff.1 h).1
  rw [List.take_add_one, h, cellsAt_append]
  simp [cellsAt, Nat.min_eq_left (Nat.le_of_lt hj)]

theorem cells_drewN {w w1 : World} {L : List Pz} {e : Ending} (h : CellsEnd w L e w1) (q : Nat) : CellsEnd w L e (w1.drewN q) := by
  obtain ⟨v, h1, h2, h3⟩ := h
  exact ⟨v, h1, below_drewNP h2 q, h3⟩
set_option maxHeartbeats 4000000 in
set_option maxRecDepth 8000 in
theorem br_cells (w : World) (v : Value) (L : List PzV) (h : PzsAt w v L) (hlen : L.length ≤ 100000) (htot : (cellsZ (L.map PzV.m)).length ≤ 1000000) : Calls Try.prog 11 #[v] w (CellsEnd w (L.map PzV.m)) := by
  obtain ⟨a, cap, rfl⟩ := RowsAt.form h.rows
  obtain ⟨N, hN⟩ : ∃ N, N = L.length := ⟨_, rfl⟩
  rw [← hN] at h hlen ⊢
  obtain ⟨ic, hic, hcz, hcs, hcb⟩ := info_parts infoC1
  have HI := hid (And.intro hic (And.intro hcz (And.intro hcs hcb)))
  have H := hid (And.intro h (And.intro hlen (And.intro htot hN)))
  clear h hlen htot hN hic hcz hcs hcb
  go_enter Try.func11, Try.ntmps11
  go_wp2_with fail
  go_loopw [5] (fun vi wr => ∃ (k last : Nat), k ≤ N ∧ vi = .int .i64 (k : Int) ∧ Below w.heap.size w wr ∧ mayFrom last ((L.map PzV.m).drop k) = mayZ (L.map PzV.m) ∧ ((k = 0 ∧ last = 0) ∨ (0 < k ∧ ∃ y, L[k - 1]? = some y ∧ last = y.at_ + y.bytes.length ∧ last ≤ MAXA))) (fun vi _ => N - (intOf vi).toNat)
  case atStart => exact ⟨0, 0, Nat.zero_le _, rfl, Below.refl _ _, rfl, .inl ⟨rfl, rfl⟩⟩
  case round =>
    obtain ⟨k, last, hk, rfl, hw, hmf, hkl⟩ := hrel
    by_cases hlt : k < N
    · obtain ⟨x, hx⟩ : ∃ x, L[k]? = some x := ⟨_, List.getElem?_eq_getElem (by rw [← H.out.2.2.2]; exact hlt)⟩
      have hd : (L.map PzV.m).drop k = x.m :: (L.map PzV.m).drop (k + 1) := by
        rw [List.drop_eq_getElem_cons (by rw [List.length_map, ← H.out.2.2.2]; exact hlt)]
        congr 1
        rw [List.getElem_map]
        congr 1
        exact (List.getElem?_eq_some_iff.1 hx).2
      rw [hd, mayFrom_cons] at hmf
      have hAt := H.out.1.below hw
      obtain ⟨g, off, rfl, y0, y1, y2⟩ := hAt.cell hx
      have hsh := hAt.short (List.mem_of_getElem? hx)
      obtain ⟨xa, xp, xs, xc, xb⟩ := x
      dsimp only at y0 y1 y2 hsh
      obtain ⟨n, hn⟩ : ∃ n, n = xb.length := ⟨_, rfl⟩
      have hmf : (decide (0 < n) && decide (1 ≤ xp) && decide (xp ≤ 7) && decide (last ≤ xa) && decide (xa ≤ 140737488355328) && decide (xa + n ≤ 140737488355328) && mayFrom (xa + n) ((L.map PzV.m).drop (k + 1))) = mayZ (L.map PzV.m) := by rw [hn]; exact hmf
      rw [← hn] at y2 hsh
      have i1 : (0 : Int) ≤ (k : Int) := by omega
      have i2 : (k : Int) < (N : Int) := by omega
      have hltz : decide ((k : Int) < (N : Int)) = true := by rw [decide_eq_true_eq]; omega
      have hwk : IntKind.i64.wrap ((k : Int) + 1) = ((k + 1 : Nat) : Int) := (IntWalk.i64_in _ (by have := H.out.2.1; omega)).trans (by omega)
      have hwn : IntKind.u64.wrap (n : Int) = (n : Int) := IntWalk.u64_in _ (by omega)
      have HX := hid hn
      clear hn hd
      have hal : Below wr.heap.size wr (wr.alloc (.cells #[.int .u64 (xa : Int), .int .i64 xp, .slice xs n xc] 45)) := (Below.refl _ _).alloc (Nat.le_refl _) _
      have hfail : mayZ (L.map PzV.m) = false → CellsEnd w (L.map PzV.m) (.returned (.tuple #[.slice none 0 0, .bool false])) (wr.alloc (.cells #[.int .u64 (xa : Int), .int .i64 xp, .slice xs n xc] 45)) := fun hf =>
        ⟨_, by rw [hf], hw.trans (hal.mono hw.size), by rw [hf]; exact World.ownsRow_nil _ _ _ _⟩
      have HW := hid (And.intro hw (And.intro hal (And.intro hfail (And.intro hkl (And.intro hx (And.intro hlt hsh))))))
      have hmfH := hid hmf
      clear hw hal hfail hkl hx hAt hk hmf hlt hsh
      by_cases c0 : n = 0
      · have hf : mayZ (L.map PzV.m) = false := by
          rw [← hmfH.out]
          cases hq : (decide (0 < n) && decide (1 ≤ xp) && decide (xp ≤ 7) && decide (last ≤ xa) && decide (xa ≤ 140737488355328) && decide (xa + n ≤ 140737488355328) && mayFrom (xa + n) ((L.map PzV.m).drop (k + 1))) with
          | false => rfl
          | true => simp only [Bool.and_eq_true, decide_eq_true_eq] at hq; omega
        have d0 : ((n : Int) == 0) = true := by first | exact decide_eq_true (by omega) | (simp only [beq_iff_eq]; omega)
        have HF := hid (HW.out.2.2.1 hf)
        clear hf c0
        go_wp2_with fail
        refine bodyPost_ret (v := .tuple #[.slice none 0 0, .bool false]) (by simp [results, Try.results11, go_sem]) rfl ?_
        exact HF.out
      by_cases c1 : xp < 1
      · have hf : mayZ (L.map PzV.m) = false := by
          rw [← hmfH.out]
          cases hq : (decide (0 < n) && decide (1 ≤ xp) && decide (xp ≤ 7) && decide (last ≤ xa) && decide (xa ≤ 140737488355328) && decide (xa + n ≤ 140737488355328) && mayFrom (xa + n) ((L.map PzV.m).drop (k + 1))) with
          | false => rfl
          | true => simp only [Bool.and_eq_true, decide_eq_true_eq] at hq; omega
        have d0 : ((n : Int) == 0) = false := by first | exact decide_eq_false (by omega) | (simp only [beq_eq_false_iff_ne]; omega)
        have d1 : decide (xp < 1) = true := by first | exact decide_eq_true (by omega) | (simp only [beq_iff_eq]; omega)
        have HF := hid (HW.out.2.2.1 hf)
        clear hf c0 c1
        go_wp2_with fail
        refine bodyPost_ret (v := .tuple #[.slice none 0 0, .bool false]) (by simp [results, Try.results11, go_sem]) rfl ?_
        exact HF.out
      by_cases c2 : 7 < xp
      · have hf : mayZ (L.map PzV.m) = false := by
          rw [← hmfH.out]
          cases hq : (decide (0 < n) && decide (1 ≤ xp) && decide (xp ≤ 7) && decide (last ≤ xa) && decide (xa ≤ 140737488355328) && decide (xa + n ≤ 140737488355328) && mayFrom (xa + n) ((L.map PzV.m).drop (k + 1))) with
          | false => rfl
          | true => simp only [Bool.and_eq_true, decide_eq_true_eq] at hq; omega
        have d0 : ((n : Int) == 0) = false := by first | exact decide_eq_false (by omega) | (simp only [beq_eq_false_iff_ne]; omega)
        have d1 : decide (xp < 1) = false := by first | exact decide_eq_false (by omega) | (simp only [beq_eq_false_iff_ne]; omega)
        have d2 : decide (7 < xp) = true := by first | exact decide_eq_true (by omega) | (simp only [beq_iff_eq]; omega)
        have HF := hid (HW.out.2.2.1 hf)
        clear hf c0 c1 c2
        go_wp2_with fail
        refine bodyPost_ret (v := .tuple #[.slice none 0 0, .bool false]) (by simp [results, Try.results11, go_sem]) rfl ?_
        exact HF.out
      by_cases c3 : 140737488355328 < xa
      · have hf : mayZ (L.map PzV.m) = false := by
          rw [← hmfH.out]
          cases hq : (decide (0 < n) && decide (1 ≤ xp) && decide (xp ≤ 7) && decide (last ≤ xa) && decide (xa ≤ 140737488355328) && decide (xa + n ≤ 140737488355328) && mayFrom (xa + n) ((L.map PzV.m).drop (k + 1))) with
          | false => rfl
          | true => simp only [Bool.and_eq_true, decide_eq_true_eq] at hq; omega
        have d0 : ((n : Int) == 0) = false := by first | exact decide_eq_false (by omega) | (simp only [beq_eq_false_iff_ne]; omega)
        have d1 : decide (xp < 1) = false := by first | exact decide_eq_false (by omega) | (simp only [beq_eq_false_iff_ne]; omega)
        have d2 : decide (7 < xp) = false := by first | exact decide_eq_false (by omega) | (simp only [beq_eq_false_iff_ne]; omega)
        have d3 : decide ((140737488355328 : Int) < (xa : Int)) = true := by first | exact decide_eq_true (by omega) | (simp only [beq_iff_eq]; omega)
        have HF := hid (HW.out.2.2.1 hf)
        clear hf c0 c1 c2 c3
        go_wp2_with fail
        refine bodyPost_ret (v := .tuple #[.slice none 0 0, .bool false]) (by simp [results, Try.results11, go_sem]) rfl ?_
        exact HF.out
      by_cases c4 : 140737488355328 < xa + n
      · have hf : mayZ (L.map PzV.m) = false := by
          rw [← hmfH.out]
          cases hq : (decide (0 < n) && decide (1 ≤ xp) && decide (xp ≤ 7) && decide (last ≤ xa) && decide (xa ≤ 140737488355328) && decide (xa + n ≤ 140737488355328) && mayFrom (xa + n) ((L.map PzV.m).drop (k + 1))) with
          | false => rfl
          | true => simp only [Bool.and_eq_true, decide_eq_true_eq] at hq; omega
        have d0 : ((n : Int) == 0) = false := by first | exact decide_eq_false (by omega) | (simp only [beq_eq_false_iff_ne]; omega)
        have d1 : decide (xp < 1) = false := by first | exact decide_eq_false (by omega) | (simp only [beq_eq_false_iff_ne]; omega)
        have d2 : decide (7 < xp) = false := by first | exact decide_eq_false (by omega) | (simp only [beq_eq_false_iff_ne]; omega)
        have d3 : decide ((140737488355328 : Int) < (xa : Int)) = false := by first | exact decide_eq_false (by omega) | (simp only [beq_eq_false_iff_ne]; omega)
        have d4 : decide ((140737488355328 : Int) - (xa : Int) < (n : Int)) = true := by first | exact decide_eq_true (by omega) | (simp only [beq_iff_eq]; omega)
        have hws : IntKind.u64.wrap ((140737488355328 : Int) - (xa : Int)) = (140737488355328 : Int) - (xa : Int) := IntWalk.u64_in _ (by omega)
        have HF := hid (HW.out.2.2.1 hf)
        clear hf c0 c1 c2 c3 c4
        go_wp2_with fail
        refine bodyPost_ret (v := .tuple #[.slice none 0 0, .bool false]) (by simp [results, Try.results11, go_sem]) rfl ?_
        exact HF.out
      have d0 : ((n : Int) == 0) = false := by simp only [beq_eq_false_iff_ne]; omega
      have d1 : decide (xp < 1) = false := decide_eq_false (by omega)
      have d2 : decide (7 < xp) = false := decide_eq_false (by omega)
      have d3 : decide ((140737488355328 : Int) < (xa : Int)) = false := decide_eq_false (by omega)
      have d4 : decide ((140737488355328 : Int) - (xa : Int) < (n : Int)) = false := decide_eq_false (by omega)
      have hws : IntKind.u64.wrap ((140737488355328 : Int) - (xa : Int)) = (140737488355328 : Int) - (xa : Int) := IntWalk.u64_in _ (by omega)
      have HCs := hid (And.intro c0 (And.intro c1 (And.intro c2 (And.intro c3 c4))))
      clear c0 c1 c2 c3 c4
      go_upto_region 6 with fail
      obtain ⟨V, hV⟩ : ∃ V, V = wr.alloc (.cells #[.int .u64 (xa : Int), .int .i64 xp, .slice xs n xc] 45) := ⟨_, rfl⟩
      have hbV : Below wr.heap.size wr V := by rw [hV]; exact HW.out.2.1
      have hrV : RowAt V wr.heap.size 45 #[.int .u64 (xa : Int), .int .i64 xp, .slice xs n xc] := by rw [hV]; exact heap_alloc_new wr _
      have hfailV : mayZ (L.map PzV.m) = false → CellsEnd w (L.map PzV.m) (.returned (.tuple #[.slice none 0 0, .bool false])) V := by rw [hV]; exact HW.out.2.2.1
      rw [← hV]
      have v0 : V.cell? ⟨wr.heap.size, 0, none⟩ = some (.int .u64 (xa : Int)) := hrV.cell 0
      have v1 : V.cell? ⟨wr.heap.size, 1, none⟩ = some (.int .i64 xp) := hrV.cell 1
      have v2 : V.cell? ⟨wr.heap.size, 2, none⟩ = some (.slice xs n xc) := hrV.cell 2
      have HV := hid (And.intro hbV (And.intro hrV hfailV))
      clear hV hbV hrV hfailV y0 y1 y2
      rcases HW.out.2.2.2.1 with ⟨hk0, hl0⟩ | ⟨hkp, y, hy, hly, hlm⟩
      · have hkd : decide ((0 : Int) < (k : Int)) = false := decide_eq_false (by omega)
        have hkd2 : decide (0 < k) = false := decide_eq_false (by omega)
        have hnext : mayFrom (xa + n) ((L.map PzV.m).drop (k + 1)) = mayZ (L.map PzV.m) := by
          rw [← hmfH.out]
          have hc := HCs.out
          rw [decide_eq_true (show 0 < n by omega), decide_eq_true (show 1 ≤ xp by omega), decide_eq_true (show xp ≤ 7 by omega), decide_eq_true (show last ≤ xa by omega), decide_eq_true (show xa ≤ 140737488355328 by omega), decide_eq_true (show xa + n ≤ 140737488355328 by omega)]
          simp
        have HK := hid (And.intro hk0 (And.intro hl0 hnext))
        clear hk0 hl0 hnext
        go_upto_region 9 with fail
        go_quiet (fail)
        go_wp2_with fail
        exact ⟨⟨k + 1, xa + n, by have := HW.out.2.2.2.2.2.1; omega, by go_num, below_drewNP (HW.out.1.trans (HV.out.1.mono HW.out.1.size)) _, HK.out.2.2, .inr ⟨by omega, _, HW.out.2.2.2.2.1, by rw [HX.out], by have := HCs.out; unfold MAXA; omega⟩⟩, by have := HW.out.2.2.2.2.2.1; simp [intOf]; omega⟩
      · have hkd : decide ((0 : Int) < (k : Int)) = true := decide_eq_true (by omega)
        have hkd2 : decide (0 < k) = true := decide_eq_true (by omega)
        have hAt := H.out.1.below (HW.out.1.trans (HV.out.1.mono HW.out.1.size))
        obtain ⟨g2, off2, e2, z0, -, z2⟩ := hAt.cell hy
        cases e2
        obtain ⟨j, hj⟩ : ∃ j, j = k - 1 := ⟨_, rfl⟩
        rw [← hj] at z0 z2
        have hwj : IntKind.i64.wrap ((k : Int) - 1) = (j : Int) := (IntWalk.i64_in _ (by have := H.out.2.1; have := HW.out.2.2.2.2.2.1; omega)).trans (by omega)
        have j1 : (0 : Int) ≤ (j : Int) := by omega
        have j2 : (j : Int) < (N : Int) := by have := HW.out.2.2.2.2.2.1; omega
        obtain ⟨ya, yp, ys, yc, yb⟩ := y
        dsimp only at z0 z2 hly
        obtain ⟨m, hm⟩ : ∃ m, m = yb.length := ⟨_, rfl⟩
        rw [← hm] at z2 hly
        have hwm : IntKind.u64.wrap (m : Int) = (m : Int) := IntWalk.u64_in _ (by unfold MAXA at hlm; omega)
        have hwl : IntKind.u64.wrap ((ya : Int) + (m : Int)) = (last : Int) := (IntWalk.u64_in _ (by unfold MAXA at hlm; omega)).trans (by omega)
        have HY := hid (And.intro hj (And.intro hkp (And.intro hly hlm)))
        clear hj hkp hly hlm hy hm hAt
        by_cases hlx : xa < last
        · have hf : mayZ (L.map PzV.m) = false := by
            rw [← hmfH.out]
            cases hq : (decide (0 < n) && decide (1 ≤ xp) && decide (xp ≤ 7) && decide (last ≤ xa) && decide (xa ≤ 140737488355328) && decide (xa + n ≤ 140737488355328) && mayFrom (xa + n) ((L.map PzV.m).drop (k + 1))) with
            | false => rfl
            | true => simp only [Bool.and_eq_true, decide_eq_true_eq] at hq; omega
          have d9 : decide ((xa : Int) < (last : Int)) = true := decide_eq_true (by omega)
          have d9' : decide (xa < last) = true := decide_eq_true hlx
          have HF := hid (HV.out.2.2 hf)
          clear hf hlx
          go_upto_region 9 with fail
          go_quiet (fail)
          go_wp2_with fail
          refine bodyPost_ret (v := .tuple #[.slice none 0 0, .bool false]) (by simp [results, Try.results11, go_sem]) rfl ?_
          exact cells_drewN HF.out _
        · have d9 : decide ((xa : Int) < (last : Int)) = false := decide_eq_false (by omega)
          have d9' : decide (xa < last) = false := decide_eq_false hlx
          have hnext : mayFrom (xa + n) ((L.map PzV.m).drop (k + 1)) = mayZ (L.map PzV.m) := by
            rw [← hmfH.out]
            have hc := HCs.out
            rw [decide_eq_true (show 0 < n by omega), decide_eq_true (show 1 ≤ xp by omega), decide_eq_true (show xp ≤ 7 by omega), decide_eq_true (show last ≤ xa by omega), decide_eq_true (show xa ≤ 140737488355328 by omega), decide_eq_true (show xa + n ≤ 140737488355328 by omega)]
            simp
          have HK := hid hnext
          clear hnext hlx
          go_upto_region 9 with fail
          go_quiet (fail)
          go_wp2_with fail
          exact ⟨⟨k + 1, xa + n, by have := HW.out.2.2.2.2.2.1; omega, by go_num, below_drewNP (HW.out.1.trans (HV.out.1.mono HW.out.1.size)) _, HK.out, .inr ⟨by omega, _, HW.out.2.2.2.2.1, by rw [HX.out], by have := HCs.out; unfold MAXA; omega⟩⟩, by have := HW.out.2.2.2.2.2.1; simp [intOf]; omega⟩
    · have hmay : mayZ (L.map PzV.m) = true := by
        rw [← hmf, List.drop_eq_nil_of_le (by rw [List.length_map, ← H.out.2.2.2]; omega)]
        rfl
      obtain ⟨wo, rfl⟩ : ∃ wo : World, wo = wr := ⟨_, rfl⟩
      have hd : decide ((k : Int) < (N : Int)) = false := decide_eq_false (by omega)
      have HO := hid (And.intro hmay hw)
      clear hmay hw hmf hkl hk
      go_wp2_with fail
      go_loopw [4, 8] (fun vo vi wr => ∃ i : Nat, i ≤ N ∧ vi = .int .i64 (i : Int) ∧ OwnC wr w.heap.size vo (cellsZ ((L.take i).map PzV.m)) ∧ Below w.heap.size w wr) (fun _ vi _ => N - (intOf vi).toNat)
      case atStart => exact ⟨0, Nat.zero_le _, rfl, World.ownsRow_nil _ _ _ _, HO.out.2⟩
      case round =>
        obtain ⟨i, hi, rfl, hown, hbw⟩ := hrel
        obtain ⟨wq, rfl⟩ : ∃ wq : World, wq = wr := ⟨_, rfl⟩
        by_cases hlt2 : i < N
        · obtain ⟨x, hx⟩ : ∃ x, L[i]? = some x := ⟨_, List.getElem?_eq_getElem (by rw [← H.out.2.2.2]; exact hlt2)⟩
          obtain ⟨q1, q2, q3, rfl⟩ := own_form hown
          have hAt := H.out.1.below hbw
          obtain ⟨g, off, rfl, -⟩ := hAt.cell hx
          have hcz := cellsZ_take hx
          have hle := cellsZ_le (l := L) (i + 1)
          have i1 : (0 : Int) ≤ (i : Int) := by omega
          have i2 : (i : Int) < (N : Int) := by omega
          have hltz : decide ((i : Int) < (N : Int)) = true := by rw [decide_eq_true_eq]; omega
          have hwi : IntKind.i64.wrap ((i : Int) + 1) = ((i + 1 : Nat) : Int) := (IntWalk.i64_in _ (by have := H.out.2.1; omega)).trans (by omega)
          obtain ⟨xa, xp, xs, xc, xb⟩ := x
          dsimp only at hcz
          have hsh := hAt.short (List.mem_of_getElem? hx)
          dsimp only at hsh
          have hmz := (srt_of_may HO.out.1).at_le _ (List.mem_map_of_mem (List.mem_of_getElem? hx))
          obtain ⟨n, hn⟩ : ∃ n, n = xb.length := ⟨_, rfl⟩
          have hmx : xa + n ≤ MAXA := by rw [hn]; exact hmz.2.1
          have hne : 0 < n := by rw [hn]; exact List.length_pos_iff.2 hmz.2.2.1
          have HX := hid (And.intro hx (And.intro hcz (And.intro hle (And.intro hn (And.intro hmx (And.intro hsh (And.intro hown (And.intro hbw (And.intro hlt2 hne)))))))))
          clear hx hcz hle hn hmx hsh hown hbw hAt hmz hi hlt2 hne hd hlt
          go_wp2_with fail
          go_loopw [4, 9] (fun vo vj wr => ∃ j : Nat, j ≤ n ∧ vj = .int .i64 (j : Int) ∧ OwnC wr w.heap.size vo (cellsZ ((L.take i).map PzV.m) ++ cellsAt xp xa (xb.take j)) ∧ Below w.heap.size w wr) (fun _ vj _ => n - (intOf vj).toNat)
          case atStart => exact ⟨0, Nat.zero_le _, rfl, by rw [List.take_zero]; show OwnC _ _ _ (_ ++ []); rw [List.append_nil]; exact HX.out.2.2.2.2.2.2.1, HX.out.2.2.2.2.2.2.2.1⟩
          case round =>
            obtain ⟨j, hj, rfl, hown, hbw⟩ := hrel
            have hAt := H.out.1.below hbw
            obtain ⟨g', off', e', y0, y1, y2⟩ := hAt.cell HX.out.1
            cases e'
            dsimp only at y0 y1 y2
            rw [← HX.out.2.2.2.1] at y2
            by_cases hlt3 : j < n
            · have hbs := hAt.bytes _ (List.mem_of_getElem? HX.out.1)
              dsimp only at hbs
              obtain ⟨gb, ob, rfl, hcb⟩ := BS.at hbs (by rw [← HX.out.2.2.2.1]; omega)
              obtain ⟨b, hb⟩ : ∃ b, xb[j]? = some b := ⟨_, List.getElem?_eq_getElem (by rw [← HX.out.2.2.2.1]; exact hlt3)⟩
              have y3 := hcb j b hb
              obtain ⟨q1, q2, q3, rfl⟩ := own_form hown
              obtain ⟨C, hC⟩ : ∃ C, C = cellsZ ((L.take i).map PzV.m) ++ cellsAt xp xa (xb.take j) := ⟨_, rfl⟩
              have hC2 : cellsZ ((L.take i).map PzV.m) ++ cellsAt xp xa (xb.take (j + 1)) = C ++ [⟨xa + j, xp, b⟩] := by rw [hC, cellsAt_snoc _ _ hb, List.append_assoc]
              have hCl : C.length ≤ 1000000 := by
                have h1 := HX.out.2.2.1
                have h2 := H.out.2.2.1
                rw [HX.out.2.1, List.length_append, cellsAt_length] at h1
                rw [hC, List.length_append, cellsAt_length, List.length_take]
                omega
              rw [← hC] at hown
              have hltz : decide ((j : Int) < (n : Int)) = true := by rw [decide_eq_true_eq]; omega
              have j1 : (0 : Int) ≤ (j : Int) := by omega
              have j2 : (j : Int) < (n : Int) := by omega
              have hwj : IntKind.i64.wrap ((j : Int) + 1) = ((j + 1 : Nat) : Int) := (IntWalk.i64_in _ (by have := HX.out.2.2.2.2.1; unfold MAXA at this; omega)).trans (by omega)
              have hwc : IntKind.u64.wrap (j : Int) = (j : Int) := IntWalk.u64_in _ (by have := HX.out.2.2.2.2.1; unfold MAXA at this; omega)
              have hwa : IntKind.u64.wrap ((xa : Int) + (j : Int)) = (xa : Int) + (j : Int) := IntWalk.u64_in _ (by have := HX.out.2.2.2.2.1; unfold MAXA at this; omega)
              have HR := hid (And.intro hown (And.intro hbw (And.intro hC2 (And.intro hCl hlt3))))
              clear hown hbw hC hC2 hCl hAt hbs hcb hb hj hlt3
              go_upto_region 17 with fail
              refine regionG (fun W : World => W.cell? ⟨g, off + i * 3, none⟩ = some (.int .u64 (xa : Int)) ∧ W.cell? ⟨g, off + i * 3 + 1, none⟩ = some (.int .i64 xp) ∧ W.cell? ⟨g, off + i * 3 + 2, none⟩ = some (.slice (some ⟨gb, ob, none⟩) n xc) ∧ W.cell? ⟨gb, ob + j, none⟩ = some (.int .u8 (b.toNat : Int))) [23] (by kernel_rfl) ?_
              have hS : (fun W : World => W.cell? ⟨g, off + i * 3, none⟩ = some (.int .u64 (xa : Int)) ∧ W.cell? ⟨g, off + i * 3 + 1, none⟩ = some (.int .i64 xp) ∧ W.cell? ⟨g, off + i * 3 + 2, none⟩ = some (.slice (some ⟨gb, ob, none⟩) n xc) ∧ W.cell? ⟨gb, ob + j, none⟩ = some (.int .u8 (b.toNat : Int))) wr.drew := ⟨y0, y1, y2, y3⟩
              clear y0 y1 y2 y3
              refine takeW (i := 0) rfl (by kernel_rfl) (by kernel_rfl) (by kernel_rfl) (by kernel_rfl) (fun _ _ _ h => h) (.inr hS) (.inl ⟨by rfl, by intro _ _; go_simp; with_reducible rfl⟩) ?_
              try simp only [Act.put, List.setIfInBounds_toArray, List.set_cons_zero, List.set_cons_succ]
              refine takeW (i := 1) rfl (by kernel_rfl) (by kernel_rfl) (by kernel_rfl) (by kernel_rfl) (fun _ _ _ h => h) (.inr hS) (.inl ⟨by rfl, by intro _ _; go_simp; with_reducible rfl⟩) ?_
              try simp only [Act.put, List.setIfInBounds_toArray, List.set_cons_zero, List.set_cons_succ]
              refine takeW (i := 2) rfl (by kernel_rfl) (by kernel_rfl) (by kernel_rfl) (by kernel_rfl) (fun _ _ _ h => h) (.inr hS) (.inl ⟨by rfl, by intro _ _; go_simp; with_reducible rfl⟩) ?_
              try simp only [Act.put, List.setIfInBounds_toArray, List.set_cons_zero, List.set_cons_succ]
              refine takeW (i := 3) rfl (by kernel_rfl) (by kernel_rfl) (by kernel_rfl) (by kernel_rfl) (fun _ _ _ h => h) (.inr hS) (.inl ⟨by rfl, by intro _ _; go_simp; with_reducible rfl⟩) ?_
              try simp only [Act.put, List.setIfInBounds_toArray, List.set_cons_zero, List.set_cons_succ]
              refine takeW (i := 4) rfl (by kernel_rfl) (by kernel_rfl) (by kernel_rfl) (by kernel_rfl) (fun _ _ _ h => h) (.inr hS) (.inl ⟨by rfl, by intro _ _; go_simp; with_reducible rfl⟩) ?_
              try simp only [Act.put, List.setIfInBounds_toArray, List.set_cons_zero, List.set_cons_succ]
              refine takeL (i := 5) rfl (by kernel_rfl) (by kernel_rfl) (by kernel_rfl) (by kernel_rfl) (by kernel_rfl) (by kernel_rfl) (by kernel_rfl) (fun _ _ _ h => h) hS (.inl ⟨by rfl, by intro _ hSw; (try dsimp only at hSw); go_simp; with_reducible rfl⟩) ?_
              try simp only [Act.put, List.setIfInBounds_toArray, List.set_cons_zero, List.set_cons_succ]
              refine takeW (i := 6) rfl (by kernel_rfl) (by kernel_rfl) (by kernel_rfl) (by kernel_rfl) (fun _ _ _ h => h) (.inr hS) (.inl ⟨by rfl, by intro _ _; go_simp; with_reducible rfl⟩) ?_
              try simp only [Act.put, List.setIfInBounds_toArray, List.set_cons_zero, List.set_cons_succ]
              refine takeW (i := 7) rfl (by kernel_rfl) (by kernel_rfl) (by kernel_rfl) (by kernel_rfl) (fun _ _ _ h => h) (.inr hS) (.inl ⟨by rfl, by intro _ _; go_simp; with_reducible rfl⟩) ?_
              try simp only [Act.put, List.setIfInBounds_toArray, List.set_cons_zero, List.set_cons_succ]
              refine takeW (i := 8) rfl (by kernel_rfl) (by kernel_rfl) (by kernel_rfl) (by kernel_rfl) (fun _ _ _ h => h) (.inr hS) (.inl ⟨by rfl, by intro _ _; go_simp; with_reducible rfl⟩) ?_
              try simp only [Act.put, List.setIfInBounds_toArray, List.set_cons_zero, List.set_cons_succ]
              refine takeW (i := 9) rfl (by kernel_rfl) (by kernel_rfl) (by kernel_rfl) (by kernel_rfl) (fun _ _ _ h => h) (.inr hS) (.inl ⟨by rfl, by intro _ _; go_simp; with_reducible rfl⟩) ?_
              try simp only [Act.put, List.setIfInBounds_toArray, List.set_cons_zero, List.set_cons_succ]
              refine takeW (i := 10) rfl (by kernel_rfl) (by kernel_rfl) (by kernel_rfl) (by kernel_rfl) (fun _ _ _ h => h) (.inr hS) (.inl ⟨by rfl, by intro _ _; go_simp; with_reducible rfl⟩) ?_
              try simp only [Act.put, List.setIfInBounds_toArray, List.set_cons_zero, List.set_cons_succ]
              refine takeW (i := 11) rfl (by kernel_rfl) (by kernel_rfl) (by kernel_rfl) (by kernel_rfl) (fun _ _ _ h => h) (.inr hS) (.inl ⟨by rfl, by intro _ _; go_simp; with_reducible rfl⟩) ?_
              try simp only [Act.put, List.setIfInBounds_toArray, List.set_cons_zero, List.set_cons_succ]
              refine takeW (i := 12) rfl (by kernel_rfl) (by kernel_rfl) (by kernel_rfl) (by kernel_rfl) (fun _ _ _ h => h) (.inr hS) (.inl ⟨by rfl, by intro _ _; go_simp; with_reducible rfl⟩) ?_
              try simp only [Act.put, List.setIfInBounds_toArray, List.set_cons_zero, List.set_cons_succ]
              refine takeL (i := 13) rfl (by kernel_rfl) (by kernel_rfl) (by kernel_rfl) (by kernel_rfl) (by kernel_rfl) (by kernel_rfl) (by kernel_rfl) (fun _ _ _ h => h) hS (.inl ⟨by rfl, by intro _ hSw; (try dsimp only at hSw); go_simp; with_reducible rfl⟩) ?_
              try simp only [Act.put, List.setIfInBounds_toArray, List.set_cons_zero, List.set_cons_succ]
              refine takeW (i := 14) rfl (by kernel_rfl) (by kernel_rfl) (by kernel_rfl) (by kernel_rfl) (fun _ _ _ h => h) (.inr hS) (.inl ⟨by rfl, by intro _ _; go_simp; with_reducible rfl⟩) ?_
              try simp only [Act.put, List.setIfInBounds_toArray, List.set_cons_zero, List.set_cons_succ]
              refine takeW (i := 15) rfl (by kernel_rfl) (by kernel_rfl) (by kernel_rfl) (by kernel_rfl) (fun _ _ _ h => h) (.inr hS) (.inl ⟨by rfl, by intro _ _; go_simp; with_reducible rfl⟩) ?_
              try simp only [Act.put, List.setIfInBounds_toArray, List.set_cons_zero, List.set_cons_succ]
              refine takeW (i := 16) rfl (by kernel_rfl) (by kernel_rfl) (by kernel_rfl) (by kernel_rfl) (fun _ _ _ h => h) (.inr hS) (.inl ⟨by rfl, by intro _ _; go_simp; with_reducible rfl⟩) ?_
              try simp only [Act.put, List.setIfInBounds_toArray, List.set_cons_zero, List.set_cons_succ]
              refine takeW (i := 17) rfl (by kernel_rfl) (by kernel_rfl) (by kernel_rfl) (by kernel_rfl) (fun _ _ _ h => h) (.inr hS) (.inl ⟨by rfl, by intro _ _; go_simp; with_reducible rfl⟩) ?_
              try simp only [Act.put, List.setIfInBounds_toArray, List.set_cons_zero, List.set_cons_succ]
              refine takeL (i := 18) rfl (by kernel_rfl) (by kernel_rfl) (by kernel_rfl) (by kernel_rfl) (by kernel_rfl) (by kernel_rfl) (by kernel_rfl) (fun _ _ _ h => h) hS (.inl ⟨by rfl, by intro _ hSw; (try dsimp only at hSw); go_simp; with_reducible rfl⟩) ?_
              try simp only [Act.put, List.setIfInBounds_toArray, List.set_cons_zero, List.set_cons_succ]
              refine takeW (i := 19) rfl (by kernel_rfl) (by kernel_rfl) (by kernel_rfl) (by kernel_rfl) (fun _ _ _ h => h) (.inr hS) (.inl ⟨by rfl, by intro _ _; go_simp; with_reducible rfl⟩) ?_
              try simp only [Act.put, List.setIfInBounds_toArray, List.set_cons_zero, List.set_cons_succ]
              refine takeW (i := 20) rfl (by kernel_rfl) (by kernel_rfl) (by kernel_rfl) (by kernel_rfl) (fun _ _ _ h => h) (.inr hS) (.inl ⟨by rfl, by intro _ _; go_simp; with_reducible rfl⟩) ?_
              try simp only [Act.put, List.setIfInBounds_toArray, List.set_cons_zero, List.set_cons_succ]
              refine takeL (i := 21) rfl (by kernel_rfl) (by kernel_rfl) (by kernel_rfl) (by kernel_rfl) (by kernel_rfl) (by kernel_rfl) (by kernel_rfl) (fun _ _ _ h => h) hS (.inl ⟨by rfl, by intro _ hSw; (try dsimp only at hSw); go_simp; with_reducible rfl⟩) ?_
              try simp only [Act.put, List.setIfInBounds_toArray, List.set_cons_zero, List.set_cons_succ]
              refine takeW (i := 22) rfl (by kernel_rfl) (by kernel_rfl) (by kernel_rfl) (by kernel_rfl) (fun _ _ _ h => h) (.inr hS) (.inl ⟨by rfl, by intro _ _; go_simp; with_reducible rfl⟩) ?_
              try simp only [Act.put, List.setIfInBounds_toArray, List.set_cons_zero, List.set_cons_succ]
              refine readyG (rs := [23]) (by kernel_rfl) (by simp) (consG rfl (fun K hK => ?_) nilG)
              go_simp
              refine hK.out _ _ (.inl (by kernel_rfl)) ?_
              clear hK K
              refine readyG (rs := [24]) (by kernel_rfl) (by simp) (consG rfl (fun K hK => ?_) nilG)
              refine step_grewB _ rfl _ _ _ _ rfl w.heap.size 63 ic _ 3 24 Try.underlying34 HI.out.1 HI.out.2.1 HI.out.2.2.1 HI.out.2.2.2 rfl (.slice q1 q2 q3) C.length (C.flatMap czC) rfl (ownsRow_below HR.out.1 (((Below.refl _ _).alloc (Nat.le_refl _) _).drew)) _ 1 [.int .u64 ((xa : Int) + (j : Int)), .int .i64 xp, .int .u8 (b.toNat : Int)] rfl (src_laidDB _ Try.underlying34 [.int .u64 ((xa : Int) + (j : Int)), .int .i64 xp, .int .u8 (b.toNat : Int)] 1 rfl (by simp [Value.oneCell']) (0, 0) rfl) (Nat.le_trans (show C.length + 1 ≤ 1000001 by have := HR.out.2.2.2.1; omega) (by decide)) (by have := HR.out.2.2.2.1; omega) (by have := HR.out.2.1.size; simp; omega) ?_
              intro v6 W6 ho6 hg6
              obtain ⟨p6, n6, c6, rfl⟩ := own_form ho6
              have hbw6 : Below w.heap.size w W6 := HR.out.2.1.trans ((Grew.under (((Below.refl _ _).alloc (Nat.le_refl _) _).drew) hg6).below HR.out.2.1.size (fun q hq => (World.ownsRow.lt HR.out.1 q hq).1))
              have ho7 : OwnC W6 w.heap.size (.slice p6 n6 c6) (C ++ [⟨xa + j, xp, b⟩]) := by
                unfold OwnC
                rw [List.length_append, List.flatMap_append]
                exact ho6
              have H6 := hid (And.intro ho7 hbw6)
              clear ho6 hg6 ho7 hbw6 hS
              refine hK.out _ _ (.inl (by kernel_rfl)) ?_
              clear hK K
              try simp only [Act.put, List.setIfInBounds_toArray, List.set_cons_zero, List.set_cons_succ]
              refine takeW (i := 25) rfl (by kernel_rfl) (by kernel_rfl) (by kernel_rfl) (by kernel_rfl) (fun _ _ _ h => h) (.inl (by kernel_rfl)) (.inl ⟨by rfl, by intro _ _; go_simp; with_reducible rfl⟩) ?_
              try simp only [Act.put, List.setIfInBounds_toArray, List.set_cons_zero, List.set_cons_succ]
              refine doneG (by kernel_rfl) ?_ _
              go_wp2_with fail
              exact ⟨⟨j + 1, by have := HR.out.2.2.2.2; omega, by go_num, by rw [HR.out.2.2.1]; exact H6.out.1, H6.out.2⟩, by have := HR.out.2.2.2.2; simp [intOf]; omega⟩
            · have hltz : decide ((j : Int) < (n : Int)) = false := decide_eq_false (by omega)
              have hltz2 : decide (j < n) = false := decide_eq_false hlt3
              have hjn : j = n := by omega
              rw [hjn, HX.out.2.2.2.1, List.take_length, ← HX.out.2.1] at hown
              have HR := hid (And.intro hown hbw)
              clear hown hbw hAt hj hjn hlt3
              go_wp2_with fail
              exact ⟨⟨i + 1, by have := HX.out.2.2.2.2.2.2.2.2.1; omega, by go_num, HR.out.1, HR.out.2⟩, by have := HX.out.2.2.2.2.2.2.2.2.1; simp [intOf]; omega⟩
        · have hltz : decide ((i : Int) < (N : Int)) = false := decide_eq_false (by omega)
          have hltz2 : decide (i < N) = false := decide_eq_false hlt2
          have hin : i = L.length := by have := H.out.2.2.2; omega
          rw [hin, List.take_length] at hown
          obtain ⟨q1, q2, q3, rfl⟩ := own_form hown
          have hf : CellsEnd w (L.map PzV.m) (.returned (.tuple #[.slice q1 q2 q3, .bool true])) wq := ⟨_, by rw [HO.out.1], hbw, by rw [HO.out.1]; exact hown⟩
          have HF := hid hf
          clear hown hbw hi hin hf
          go_wp2_with fail
          refine bodyPost_ret (v := .tuple #[.slice q1 q2 q3, .bool true]) (by simp [results, Try.results11, go_sem]) rfl ?_
          exact HF.out
end Go.Proofs.Ythlnjfnjmjdohaa
