/- The reference's ToldBytes of a fault; its first number. -/
import Derived.Test.YtfkpbgookilhjaaGreatDoorZScTh
import Derived.Test.YtfkpbgookilhjaaGreatDoorZScRb
import Derived.Test.YtfkpbgookilhjaaGreatDoorZScTw
namespace Go.Proofs.YtfkpbgookilhjaaGreatDoor
set_option linter.unusedSimpArgs false
set_option linter.unusedVariables false
open Go.RowKit

set_option maxHeartbeats 1000000 in
theorem rf_low_full (w : World) (g : Nat) (xs : List UInt8) (k n size : Nat) (m : Int) (hm : m = size) (hs : size ≤ 8) (hp : 0 < size) (hn : n < 2 ^ 64) (hk : xs.length = k) (hk8 : k ≤ 8) (holds : ∀ j u, (u8s xs)[j]? = some u → w.cell? ⟨g, j, none⟩ = some u) (hg : g < w.heap.size) :
    Calls Tryz.prog 43 #[.slice (some ⟨g, 0, none⟩) k k, .int .u64 n, .int .i64 m] w fun e w' => ∃ v', e = .returned v' ∧ OB w' w.heap.size 5 v' (xs ++ lowB n size) ∧ Below w.heap.size w w' := by
  obtain ⟨i, R⟩ := u8rowS
  subst hm
  have HL := hid (fun w => ref_lowS w n size (size : Int) rfl hs hn)
  have H := hid (And.intro R holds)
  clear R holds
  go_enter Tryz.func43, Tryz.ntmps43
  go_wp2_with fail
  refine (HL.out _).mono ?_
  rintro e W1 ⟨v1, rfl, hown1, hb1⟩
  obtain ⟨a1, c1, rfl⟩ := hown1.form
  have hz1 := hb1.size
  have hc1 : ∀ j u, (u8s xs)[j]? = some u → W1.cell? ⟨g, j, none⟩ = some u := fun j u hu => below_cell' hb1 hg (H.out.2 j u hu)
  have H1 := hid (And.intro hc1 (And.intro (Src.ofBS (P := Tryz.prog) un_bsS (hown1.bs (by rw [lowB_length]; omega))) hb1))
  clear hown1 hb1 hc1
  go_wp2_with (at_builtin; refine wpList_full H.out.1 _ rfl _ _ _ rfl g xs k hk rfl H1.out.1 _ (lowB n size) rfl H1.out.2.1 ?c2 ?c3 ?_)
  case c2 => rw [lowB_length]; exact hp
  case c3 => rw [lowB_length, hk]; omega
  intro v2 W2 hown2 hb2
  have H2 := hid (And.intro (hown2.base hz1) (H1.out.2.2.trans (hb2.mono hz1)))
  clear hown2 hb2
  go_wp2
  go_ret
  exact ⟨_, rfl, H2.out.1, H2.out.2⟩

theorem conv_L (w1 : World) : (convert 30 30 (.slice (some ⟨w1.heap.size, 0, none⟩) 1 1)).run Tryz.prog (w1.alloc (.cells #[.int .u8 76] 5)) = .ok (.slice (some ⟨w1.heap.size, 0, none⟩) 1 1) (w1.alloc (.cells #[.int .u8 76] 5 (1, 2))) :=
  Go.Lib.run_convert_bytes_const w1 30 5 #[.int .u8 76] 1 1 un_bsS Tryz.underlying5

set_option maxHeartbeats 2000000 in
theorem rf_told_fault (w : World) (t : ToldV) (her : t.er ≠ 0) (hl : t.img.length ≤ 65535) : Calls Tryz.prog 19 #[.agg t.h.cells] w fun e w' => ∃ v, e = .returned v ∧ OB w' w.heap.size 5 v t.m.enc ∧ Below w.heap.size w w' := by
  have hv8 : ∀ x : Int, IntKind.u8.wrap x = ((UInt8.ofNat (x % 256).toNat).toNat : Int) := fun x => by
    rw [IntKind.wrap_u8]; simp; omega
  have hn : (t.er != 0) = true := by unfold bne; rw [beq_eq_false_iff_ne.2 her]; rfl
  have henc : t.m.enc = faultB t.ph t.er ++ nmB t.img := by unfold ToldM.enc ToldV.m; dsimp only; rw [if_neg her]
  have hwp := hv8 t.ph
  have hwe := hv8 t.er
  obtain ⟨y1, hy1⟩ : ∃ y, y = UInt8.ofNat (t.ph % 256).toNat := ⟨_, rfl⟩
  obtain ⟨y2, hy2⟩ : ∃ y, y = UInt8.ofNat (t.er % 256).toNat := ⟨_, rfl⟩
  rw [← hy1] at hwp
  rw [← hy2] at hwe
  have hf : faultB t.ph t.er = [70, y1, y2] := by unfold faultB; rw [hy1, hy2]
  rw [hf] at henc
  rw [henc]
  obtain ⟨w1, hw1⟩ : ∃ w1, w1 = w.alloc (.cells t.h.cells 49) := ⟨_, rfl⟩
  have hb1 : Below w.heap.size w w1 := by rw [hw1]; exact (Below.refl _ _).alloc (Nat.le_refl _) _
  have hx1 : ToldBox w1 w.heap.size t.h := by rw [hw1]; exact ToldBox.new w t.h
  have hs1 : w.heap.size < w1.heap.size := by rw [hw1]; simp
  have bA : Below w1.heap.size w1 (w1.alloc (.cells #[.int .u8 70, .int .u8 (y1.toNat : Int), .int .u8 (y2.toNat : Int)] 5)) := (Below.refl _ _).alloc (Nat.le_refl _) _
  have hown : OB (w1.alloc (.cells #[.int .u8 70, .int .u8 (y1.toNat : Int), .int .u8 (y2.toNat : Int)] 5)) w1.heap.size 5 (.slice (some ⟨w1.heap.size, 0, none⟩) 3 3) [70, y1, y2] := OB.laid w1 [70, y1, y2] (by simp)
  have x1' : (w1.alloc (.cells #[.int .u8 70, .int .u8 (y1.toNat : Int), .int .u8 (y2.toNat : Int)] 5)).cell? ⟨w.heap.size, 1, none⟩ = some (.string (mkS t.img)) := below_cell' bA hs1 hx1.atV.2.1
  have H := hid (And.intro hb1 (And.intro bA (And.intro hown hw1.symm)))
  obtain ⟨x0, x1, x2, x3, x4, x5, x6⟩ := hx1.atV
  clear hb1 bA hown hw1 hx1 hy1 hy2 hf henc hv8 her
  show Calls Tryz.prog 19 #[.agg #[.int .i64 t.ph, .string (mkS t.img), .int .i64 t.er, .slice t.sp t.seats.length t.sc, .slice t.mp t.mem.length t.mc, .slice t.np t.inits.length t.nc, .int .u64 (t.entry : Int)]] w _
  go_enter Tryz.func19, Tryz.ntmps19
  go_upto_region 1 with fail
  rw [show w.alloc (.cells #[.int .i64 t.ph, .string (mkS t.img), .int .i64 t.er, .slice t.sp t.seats.length t.sc, .slice t.mp t.mem.length t.mc, .slice t.np t.inits.length t.nc, .int .u64 (t.entry : Int)] 49) = w1 from H.out.2.2.2]
  go_wp2_with fail
  refine (rf_name _ w1.heap.size _ [70, y1, y2] t.img H.out.2.2.1 (by simp; omega) H.out.2.1.size).mono ?_
  rintro e w2 ⟨v2, rfl, ho2, hg2⟩
  have hs : w.heap.size ≤ w1.heap.size := Nat.le_of_lt hs1
  have hb2 := hg2.below H.out.2.1.size H.out.2.2.1.high
  have H2 := hid (And.intro (ho2.base hs) (H.out.1.trans ((H.out.2.1.trans hb2).mono hs)))
  clear ho2 hg2 hb2 x0 x1 x2 x3 x4 x5 x6 x1'
  go_wp2_with fail
  go_ret
  exact ⟨_, rfl, H2.out.1, H2.out.2⟩
end Go.Proofs.YtfkpbgookilhjaaGreatDoor
