/- script.Of of a job's bytes. -/
import Derived.Test.YtfkpbgookilhjaaGreatDoorZScT
import Derived.Deep.RegionWith
import Derived.Deep.RegionHeld3
namespace Go.Proofs.YtfkpbgookilhjaaGreatDoor
set_option linter.unusedSimpArgs false
set_option linter.unusedVariables false
open Go.RowKit

theorem of_ord {w W0 w1 : World} {c : Nat} {l : List UInt8} {k : Nat} (hb : Below w.heap.size w W0) (hs : W0.heap.size = w.heap.size + 1) (hc : W0.heap.size ≤ c) (hcu : CurAt w1 c l k false false) : OfOrd w w.heap.size c w1.heap.size (w1.heap.size + 1) := by
  have := hcu.lt
  exact ⟨Nat.le_refl _, by omega, by omega, by omega⟩
theorem of_start {w W0 w1 : World} {c : Nat} {l : List UInt8} {Z : Array Value} {t : TypeId} (hb : Below w.heap.size w W0) (hs : W0.heap.size = w.heap.size + 1) (hX : W0.heap[w.heap.size]? = some (.cells Z t (0, 0))) (hc : W0.heap.size ≤ c) (hcu : CurAt w1 c l 0 false false) (hb1 : Below W0.heap.size W0 w1) :
    OfIn w ((w1.alloc (.cells #[.pointer (some ⟨c, 0, none⟩), .bool false] 74)).alloc (.cells #[.pointer (some ⟨w1.heap.size, 0, none⟩)] 70)) w.heap.size c w1.heap.size (w1.heap.size + 1) l 0 l Z t := by
  have hcl := hcu.lt
  have b1 : Below w1.heap.size w1 (w1.alloc (.cells #[.pointer (some ⟨c, 0, none⟩), .bool false] 74)) := (Below.refl _ _).alloc (Nat.le_refl _) _
  have e1 : (w1.alloc (.cells #[.pointer (some ⟨c, 0, none⟩), .bool false] 74)).heap.size = w1.heap.size + 1 := by simp
  have r1 := heap_alloc_new w1 (.cells #[.pointer (some ⟨c, 0, none⟩), .bool false] 74)
  generalize (w1.alloc (.cells #[.pointer (some ⟨c, 0, none⟩), .bool false] 74)) = V at b1 e1 r1 ⊢
  have b2 : Below V.heap.size V (V.alloc (.cells #[.pointer (some ⟨w1.heap.size, 0, none⟩)] 70)) := (Below.refl _ _).alloc (Nat.le_refl _) _
  have r2 := heap_alloc_new V (.cells #[.pointer (some ⟨w1.heap.size, 0, none⟩)] 70)
  rw [e1] at r2
  have bb : Below w1.heap.size w1 (V.alloc (.cells #[.pointer (some ⟨w1.heap.size, 0, none⟩)] 70)) := b1.trans (b2.mono (by omega))
  exact ⟨⟨(b2.block _ (by omega)).trans r1, hcu.below bb, by omega⟩, rfl, hb.trans ((hb1.mono (by omega)).trans (bb.mono (by have := hb1.size; omega))), ⟨r2⟩, (bb.block _ (by have := hb1.size; omega)).trans ((hb1.block _ (by omega)).trans hX)⟩
theorem enc_six {j : JobM} {l : List UInt8} (h : l = j.enc) : 6 ≤ l.length := by
  rw [h]; unfold JobM.enc
  simp only [List.length_append, lowB_length, magicB, List.length_cons, List.length_nil]; omega
theorem enc_magic {j : JobM} {l : List UInt8} (h : l = j.enc) : (l.drop 0).take 4 = [67, 76, 86, 83] := by
  rw [h, List.drop_zero]; unfold JobM.enc
  simp only [List.append_assoc]
  rw [List.take_append_of_le_length (by simp [magicB])]
  rfl
/-- What is left behind the magic. -/
def restE (j : JobM) : List UInt8 := lowB j.arch.toNat 1 ++ (lowB (flatN j.flat) 1 ++ (lowB j.base 8 ++ (nmB j.main ++ (lowB j.insert.length 2 ++ (j.insert.flatMap nmB ++ (lowB j.files.length 2 ++ (j.files.flatMap FileM.enc ++ [])))))))
theorem enc_rest {j : JobM} {l : List UInt8} (h : l = j.enc) : l.drop (0 + 4) = restE j := by
  rw [h]; unfold JobM.enc restE
  simp only [List.append_assoc, List.append_nil]
  exact List.drop_left' rfl

theorem row6 {W : World} {X : Nat} {u0 u1 u2 u3 u4 u5 : Value} {t : TypeId} (h : W.heap[X]? = some (.cells #[u0, u1, u2, u3, u4, u5] t (0, 0))) : W.cell? ⟨X, 0, none⟩ = some u0 ∧ W.cell? ⟨X, 1, none⟩ = some u1 ∧ W.cell? ⟨X, 2, none⟩ = some u2 ∧ W.cell? ⟨X, 3, none⟩ = some u3 ∧ W.cell? ⟨X, 4, none⟩ = some u4 ∧ W.cell? ⟨X, 5, none⟩ = some u5 :=
  ⟨cell_of_row W X 0 _ _ _ h, cell_of_row W X 1 _ _ _ h, cell_of_row W X 2 _ _ _ h, cell_of_row W X 3 _ _ _ h, cell_of_row W X 4 _ _ _ h, cell_of_row W X 5 _ _ _ h⟩
set_option maxHeartbeats 4000000 in
set_option maxRecDepth 4000 in
theorem sc_of (w : World) (p : Option Addr) (cap : Nat) (j : JobM) (M : MayJ j) (hbase : j.base < 2 ^ 64) (hb : BS w (.slice p j.enc.length cap) j.enc) :
    Calls Tryz.prog 11 #[.slice p j.enc.length cap] w fun e w' =>
      ∃ V : JobV, e = .returned (.tuple #[.agg V.cells, .int .i64 0]) ∧ V.m = j ∧ JobAt w' V ∧ Below w.heap.size w w' := by
  obtain ⟨l, hl⟩ : ∃ l, l = j.enc := ⟨_, rfl⟩
  rw [← hl] at hb ⊢
  obtain ⟨W0, hW0⟩ : ∃ W0, W0 = w.alloc (.cells #[.slice none 0 0, .string ⟨#[]⟩, .slice none 0 0, .int .i64 0, .int .u64 0, .bool false] 27) := ⟨_, rfl⟩
  have hb0 : Below w.heap.size w W0 := by rw [hW0]; exact (Below.refl _ _).alloc (Nat.le_refl _) _
  have hX0 : W0.heap[w.heap.size]? = some (.cells #[.slice none 0 0, .string ⟨#[]⟩, .slice none 0 0, .int .i64 0, .int .u64 0, .bool false] 27 (0, 0)) := by rw [hW0]; exact heap_alloc_new w _
  have hs0 : W0.heap.size = w.heap.size + 1 := by rw [hW0]; simp
  have H0 := hid (And.intro (hb.below hb0) (And.intro hb0 (And.intro hX0 (And.intro hs0 (And.intro hl (And.intro M hbase))))))
  have HW := hid hW0.symm
  clear hb hb0 hX0 hs0 hl M hbase hW0
  go_enter Tryz.func11, Tryz.ntmps11
  go_upto_region 1 with fail
  rw [HW.out]
  go_wp2_with fail
  refine (cur_new _ p l.length cap l false H0.out.1).mono ?_
  rintro e w1 ⟨c, rfl, hc, hcu, hb1⟩
  have H1 := hid (And.intro hc (And.intro hcu hb1))
  clear hc hcu hb1
  go_upto_region 2 with fail
  obtain ⟨W2, hW2⟩ : ∃ W2, W2 = ((w1.alloc (.cells #[.pointer (some ⟨c, 0, none⟩), .bool false] 74)).alloc (.cells #[.pointer (some ⟨w1.heap.size, 0, none⟩)] 70)) := ⟨_, rfl⟩
  have O := of_ord H0.out.2.1 H0.out.2.2.2.1 H1.out.1 H1.out.2.1
  have hi2 : OfIn w W2 w.heap.size c w1.heap.size (w1.heap.size + 1) l 0 l #[.slice none 0 0, .string ⟨#[]⟩, .slice none 0 0, .int .i64 0, .int .u64 0, .bool false] 27 := by
    rw [hW2]; exact of_start H0.out.2.1 H0.out.2.2.2.1 H0.out.2.2.1 H1.out.1 H1.out.2.1 H1.out.2.2
  rw [← hW2]
  clear hW2
  have k0 := hi2.ka.cell
  obtain ⟨x0, x1⟩ := hi2.rd.cell
  have hlen : 6 ≤ l.length := enc_six H0.out.2.2.2.2.1
  have H2 := hid hi2
  clear hi2
  go_wp2_with fail
  refine (cur_bytes_ok c _ l 0 4 4 rfl H2.out.rd.cur (by omega)).mono ?_
  rintro e w3 ⟨p3, cap3, rfl, hbs3, -, hc3, hg3⟩
  have e4 : (l.drop 0).take 4 = [67, 76, 86, 83] := enc_magic H0.out.2.2.2.2.1
  rw [e4] at hbs3
  have hts := run_toString (P := Tryz.prog) (dst := 9) _ _ _ un_bsR un_u8R un_strR hbs3
  have hi3 := H2.out.next O (H2.out.rd.next hc3 hg3) rfl hg3
  clear hc3 hg3 hbs3 k0 x0 x1 e4
  have hts : (convert 30 9 (.slice p3 4 cap3)).run Tryz.prog w3 = .ok (.string ⟨#[67, 76, 86, 83]⟩) w3 := hts
  have k0 := hi3.ka.cell
  obtain ⟨x0, x1⟩ := hi3.rd.cell
  have H3 := hid hi3
  clear hi3
  go_wp2_with fail
  refine (cur_err0 c _ l _ H3.out.rd.cur).mono ?_
  rintro e w4 ⟨rfl, hb4⟩
  have hi4 := H3.out.below hb4
  clear hb4 hts k0 x0 x1
  have k0 := hi4.ka.cell
  obtain ⟨x0, x1⟩ := hi4.rd.cell
  have H4 := hid hi4
  clear hi4
  obtain ⟨a, haI, haN⟩ : ∃ a : Nat, (a : Int) = j.arch ∧ a = j.arch.toNat := ⟨j.arch.toNat, by have := H0.out.2.2.2.2.2.1.arch; omega, rfl⟩
  have ha3 : a < 3 := by have := H0.out.2.2.2.2.2.1.arch; omega
  have hwa : IntKind.i64.wrap (a : Int) = (a : Int) := IntWalk.i64_in _ (by omega)
  obtain ⟨fl, hfl, hfl2, hfe⟩ : ∃ fl : Nat, fl = flatN j.flat ∧ fl < 2 ∧ ((fl : Int) == 1) = j.flat := ⟨flatN j.flat, rfl, by cases j.flat <;> decide, by cases j.flat <;> rfl⟩
  have hl4 : l.drop (0 + 4) = restE j := enc_rest H0.out.2.2.2.2.1
  unfold restE at hl4
  rw [← haN, ← hfl] at hl4
  have HL := hid (And.intro hl4 (And.intro haI (And.intro haN hfl)))
  clear hl4 haI haN hfl
  go_wp2_with fail
  refine (rd_number c _ l _ (0 + 4) a 1 1 (by simp) rfl H4.out.rd.cur HL.out.1 (by omega)).mono ?_
  rintro e w5 ⟨rfl, hc5, hd5, hg5⟩
  have hi5 := H4.out.next O (H4.out.rd.next hc5 hg5) hd5 hg5
  clear hc5 hd5 hg5 k0 x0 x1
  have H5 := hid hi5
  clear hi5
  go_upto_region 6 with fail
  obtain ⟨W6, hW6⟩ : ∃ W6, W6 = w5.alloc (.cells #[.slice none 0 0, .string ⟨#[]⟩, .slice none 0 0, .int .i64 a, .int .u64 0, .bool false] 27) := ⟨_, rfl⟩
  have hb6 : Below w5.heap.size w5 W6 := by rw [hW6]; exact (Below.refl _ _).alloc (Nat.le_refl _) _
  have hj6 : OfJ w W6 w.heap.size c w1.heap.size (w1.heap.size + 1) w5.heap.size l _ _ _ _ _ := ⟨H5.out.below hb6, by rw [hW6]; exact heap_alloc_new w5 _⟩
  rw [← hW6]
  have hKJ := H5.out.ka.lt
  clear hW6 hb6
  have k0 := hj6.i.ka.cell
  obtain ⟨x0, x1⟩ := hj6.i.rd.cell
  have H6 := hid hj6
  clear hj6
  go_wp2_with fail
  refine (rd_number c _ l _ _ fl 1 1 (by simp) rfl H6.out.i.rd.cur H6.out.i.left (by omega)).mono ?_
  rintro e w7 ⟨rfl, hc7, hd7, hg7⟩
  have hj := H6.out.next O hKJ (H6.out.i.rd.next hc7 hg7) hd7 hg7
  clear hc7 hd7 hg7 k0 x0 x1
  have hmain : j.main.length < 65536 := by have := H0.out.2.2.2.2.2.1.main; omega
  have hbase : j.base < 256 ^ 8 := Nat.lt_of_lt_of_eq H0.out.2.2.2.2.2.2 (by decide)
  go_upto_region 7 with fail
  have hj0 := hid hj
  clear hj
  go_cut [] (fun wx => OfJ w wx w.heap.size c w1.heap.size (w1.heap.size + 1) w5.heap.size l (0 + 4 + 1 + 1 + 8 + 2 + j.main.length) (lowB j.insert.length 2 ++ (j.insert.flatMap nmB ++ (lowB j.files.length 2 ++ (j.files.flatMap FileM.enc ++ [])))) #[.slice none 0 0, .string ⟨#[]⟩, .slice none 0 0, .int .i64 0, .int .u64 0, .bool false] 27 #[.slice none 0 0, .string (mkS j.main), .slice none 0 0, .int .i64 a, .int .u64 (j.base : Int), .bool j.flat])
  case first =>
    have hj := OfJ.drew hj0.out
    have k0 := hj.i.ka.cell
    obtain ⟨x0, x1⟩ := hj.i.rd.cell
    have z1 := hj.cell (i := 1) rfl
    have z4 := hj.cell (i := 4) rfl
    have z5 := hj.cell (i := 5) rfl
    have zf := fun i => hj.frozen i
    go_region_with
      (first
        | (go_at_call 36; have hq := rd_number c _ l _ _ j.base 8 8 (by simp) rfl hj.i.rd.cur hj.i.left hbase; (with_reducible refine hq.mono ?_); clear hq; rintro e w8 ⟨rfl, hc8, hd8, hg8⟩; have hj := hj.next O hKJ (hj.i.rd.next hc8 hg8) hd8 hg8; clear hc8 hd8 hg8 k0 x0 x1 z1 z4 z5 zf; have k0 := hj.i.ka.cell; obtain ⟨x0, x1⟩ := hj.i.rd.cell; have z1 := hj.cell (i := 1) rfl; have z4 := hj.cell (i := 4) rfl; have z5 := hj.cell (i := 5) rfl; have zf := fun i => hj.frozen i)
        | (go_at_call 37; have hq := rd_name _ c _ l _ _ _ hj.i.rd hj.i.left hmain; (with_reducible refine hq.mono ?_); clear hq; rintro e w9 ⟨rfl, hr9, hd9, hg9⟩; have hj := hj.next O hKJ hr9 hd9 hg9; clear hr9 hd9 hg9 k0 x0 x1 z1 z4 z5 zf; have k0 := hj.i.ka.cell; obtain ⟨x0, x1⟩ := hj.i.rd.cell; have z1 := hj.cell (i := 1) rfl; have z4 := hj.cell (i := 4) rfl; have z5 := hj.cell (i := 5) rfl; have zf := fun i => hj.frozen i)
        | fail "no call")
    all_goals
      obtain ⟨hg, hrow⟩ := put3 (i1 := 5) (i2 := 4) (i3 := 1) (.bool j.flat) (.int .u64 (j.base : Int)) (.string (mkS j.main)) hj.row
      have hj := hj.put O hKJ hg hrow
      have hj := hid hj
      clear hg hrow k0 x0 x1 z1 z4 z5 zf
      go_wp2_with fail
      go_meet
      exact hj.out
  case rest =>
  have hj := hcut
  clear hcut
  have k0 := hj.i.ka.cell
  have z2 := hj.cell (i := 2) rfl
  have zf := hj.frozen 2
  have Hj := hid hj
  clear hj
  go_wp2_with fail
  refine (read_strs _ c wc l _ j.insert _ Hj.out.i.rd Hj.out.i.left H0.out.2.2.2.2.2.1.insert H0.out.2.2.2.2.2.1.names).mono ?_
  rintro e w10 ⟨o10, rfl, hs10⟩
  obtain ⟨p10, c10, rfl⟩ := ownsRow_form hs10.own
  have hst := rows_of_own (cs := strC) (k := 1) (by omega) (fun _ => rfl) (by have := hs10.own; rwa [strCs_flat] at this)
  have hj10 := Hj.out.next O hKJ hs10.rd hs10.left hs10.by_
  have hJc := Hj.out.lt
  clear hs10 z2 zf k0
  have z2 := hj10.cell (i := 2) rfl
  have zf := hj10.frozen 2
  have H10 := hid (And.intro hj10 hst)
  clear hj10 hst
  go_upto_region 9 with fail
  obtain ⟨hg11, hrow11⟩ := put1 (i := 2) (.slice p10 j.insert.length c10) H10.out.1.row
  have hj11 := H10.out.1.put O hKJ hg11 hrow11
  have hst11 : StrsAt _ (.slice p10 j.insert.length c10) j.insert := RowsAt.of_block H10.out.2.1 (fun x _ => ⟨_, rfl⟩) (fun b hb hlt => hg11.block b hlt (fun e => by cases e; have := H10.out.2.2 _ hb; omega))
  generalize w10.setCell ⟨w5.heap.size, 2, none⟩ (.slice p10 j.insert.length c10) = W11 at hj11 hst11 ⊢
  clear hg11 hrow11 z2 zf
  have k0 := hj11.i.ka.cell
  have z0 := hj11.cell (i := 0) rfl
  have zf := hj11.frozen 0
  have H11 := hid (And.intro hj11 hst11)
  clear hj11 hst11
  go_wp2_with fail
  refine (read_files _ _ c W11 l [] j.files _ H11.out.1.i.ka (by have := O.d; have := O.e; omega) H11.out.1.i.rd H11.out.1.i.left H0.out.2.2.2.2.2.1.files H0.out.2.2.2.2.2.1.each).mono ?_
  rintro e w12 ⟨o12, fs, rfl, hfs, hr12⟩
  obtain ⟨p12, c12, rfl⟩ := ownsRow_form hr12.own.own
  have hft := rows_of_own (cs := FileV.cells) (k := 2) (by omega) filesLen hr12.own.own
  have hea := hr12.own.each
  have hj12 := H11.out.1.next O hKJ hr12.rd hr12.left hr12.by_
  have hst12 : StrsAt w12 (.slice p10 j.insert.length c10) j.insert := RowsAt.of_block H11.out.2 (fun x _ => ⟨_, rfl⟩) (fun b hb hlt => hr12.by_.block b hlt (fun e => by cases e; have := H10.out.2.2 _ hb; have := O.b; have := O.d; have := O.e; omega))
  have hJ11 := H11.out.1.lt
  clear hr12 z0 zf k0
  have z0 := hj12.cell (i := 0) rfl
  have zf := hj12.frozen 0
  have H12 := hid (And.intro hj12 (And.intro hst12 (And.intro hft (And.intro hea hfs))))
  clear hj12 hst12 hft hea hfs
  go_upto_region 10 with fail
  obtain ⟨hg13, hrow13⟩ := put1 (i := 0) (.slice p12 fs.length c12) H12.out.1.row
  have hE := OfEnd.mk' O hKJ H12.out.1 hg13 hrow13 H12.out.2.2.1.1 (fun b hb => Nat.lt_of_lt_of_le hJ11 (H12.out.2.2.1.2 b hb)) (fun x hx => ⟨(H12.out.2.2.2.1 x hx).1, fun b hb => Nat.lt_of_lt_of_le hJ11 ((H12.out.2.2.2.1 x hx).2 b hb).1⟩) H12.out.2.1 (fun b hb => Nat.lt_of_lt_of_le hJc (H10.out.2.2 b hb)) H0.out.2.2.2.2.2.2
  generalize w12.setCell ⟨w5.heap.size, 0, none⟩ (.slice p12 fs.length c12) = W13 at hE ⊢
  have hVm : JobV.m ⟨p12, c12, fs, j.main, p10, c10, j.insert, (a : Int), j.base, j.flat⟩ = j := by
    unfold JobV.m
    rw [H12.out.2.2.2.2, HL.out.2.1]
  have hmay : ∀ W, JobAt W ⟨p12, c12, fs, j.main, p10, c10, j.insert, (a : Int), j.base, j.flat⟩ → Calls Tryz.prog 10 #[.agg #[.slice p12 fs.length c12, .string (mkS j.main), .slice p10 j.insert.length c10, .int .i64 a, .int .u64 (j.base : Int), .bool j.flat]] W fun e w' => e = .returned (.bool true) ∧ Below W.heap.size W w' := by
    intro W hW
    have h1 := sc_may W _ hW
    rw [hVm, (mayJ_iff j).2 H0.out.2.2.2.2.2.1] at h1
    exact h1
  have Hmay := hid hmay
  have HVm := hid hVm
  have hle1 : decide ((fl : Int) ≤ 1) = true := decide_eq_true (by omega)
  have hle2 : decide (fl ≤ 1) = true := decide_eq_true (by omega)
  have HE := hid hE
  clear hg13 hrow13 z0 zf hmay hVm hE
  go_cut [8] (fun v8 wx => v8 = .int .i64 0 ∧ OfEnd w wx w.heap.size c w1.heap.size (w1.heap.size + 1) w5.heap.size l #[.slice none 0 0, .string ⟨#[]⟩, .slice none 0 0, .int .i64 0, .int .u64 0, .bool false] 27 ⟨p12, c12, fs, j.main, p10, c10, j.insert, (a : Int), j.base, j.flat⟩)
  case first =>
    have hE := HE.out.drew
    have k0 := hE.j.i.ka.cell
    obtain ⟨z0, z1, z2, z3, z4, z5⟩ := hE.zs
    go_region_with
      (first
        | (go_at_call 10; (with_reducible refine (Hmay.out _ hE.at_).mono ?_); rintro e w14 ⟨rfl, hb14⟩; have hE := hE.below hb14; clear hb14 k0 z0 z1 z2 z3 z4 z5; have k0 := hE.j.i.ka.cell; obtain ⟨z0, z1, z2, z3, z4, z5⟩ := hE.zs)
        | (go_at_call 42; (with_reducible refine (rd_end0 _ c _ l hE.j.i.rd).mono ?_); rintro e w15 ⟨rfl, hb15⟩; have hE := hE.below hb15; clear hb15 k0 z0 z1 z2 z3 z4 z5; have k0 := hE.j.i.ka.cell; obtain ⟨z0, z1, z2, z3, z4, z5⟩ := hE.zs)
        | fail "no call")
    all_goals
      have hE := hid hE
      clear k0 z0 z1 z2 z3 z4 z5
      go_wp2_with fail
      go_meet
      exact ⟨rfl, hE.out⟩
  case rest =>
    obtain ⟨rfl, hE⟩ := hcut
    obtain ⟨z0, z1, z2, z3, z4, z5⟩ := hE.zs
    have hXr := hE.j.i.res
    obtain ⟨r0, r1, r2, r3, r4, r5⟩ := row6 hXr
    have rf := fun i => frozen_of_row _ w.heap.size i _ _ hXr
    have HF := hid (And.intro hE hXr)
    clear hE hXr
    go_wp2_with fail
    obtain ⟨hg, hrow⟩ := put6 (.slice p12 fs.length c12) (.string (mkS j.main)) (.slice p10 j.insert.length c10) (.int .i64 (a : Int)) (.int .u64 (j.base : Int)) (.bool j.flat) HF.out.2
    generalize (((((wc.setCell ⟨w.heap.size, 0, none⟩ (.slice p12 fs.length c12)).setCell ⟨w.heap.size, 1, none⟩ (.string (mkS j.main))).setCell ⟨w.heap.size, 2, none⟩ (.slice p10 j.insert.length c10)).setCell ⟨w.heap.size, 3, none⟩ (.int .i64 (a : Int))).setCell ⟨w.heap.size, 4, none⟩ (.int .u64 (j.base : Int))).setCell ⟨w.heap.size, 5, none⟩ (.bool j.flat) = W16 at hg hrow ⊢
    clear r0 r1 r2 r3 r4 r5 rf z0 z1 z2 z3 z4 z5
    obtain ⟨r0, r1, r2, r3, r4, r5⟩ := row6 hrow
    refine bodyPost_ret (v := .tuple #[.agg #[.slice p12 fs.length c12, .string (mkS j.main), .slice p10 j.insert.length c10, .int .i64 (a : Int), .int .u64 (j.base : Int), .bool j.flat], .int .i64 0]) (by simp [results, Tryz.results11, go_sem, r0, r1, r2, r3, r4, r5]) rfl ?_
    obtain ⟨f1, f2⟩ := HF.out.1.fin O hKJ hg
    exact ⟨_, rfl, HVm.out, f1, f2⟩
end Go.Proofs.YtfkpbgookilhjaaGreatDoor
