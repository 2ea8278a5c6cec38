/- Package space: look. -/
import Derived.Test.YtacmjpkcimjjpaaSpN
namespace Go.Proofs.Ytacmjpkcimjjpaa
set_option linter.unusedSimpArgs false
set_option linter.unusedVariables false
open Go.RowKit Go.Maps

/-- What look says of the pages from n on, so many, where e stands. -/
def lookL (pgs : List Pg) (p : Int) : Nat → Nat → Int → Int
  | _, 0, e => e
  | n, k + 1, e => match pgAt pgs n with
    | none => 4
    | some g => lookL pgs p (n + 1) k (if bits .and .i64 g.prot p != p then 19 else e)

theorem lookL_none {pgs : List Pg} {p e : Int} {n k : Nat} (h : pgAt pgs n = none) : lookL pgs p n (k + 1) e = 4 := by unfold lookL; rw [h]
theorem lookL_some {pgs : List Pg} {p e : Int} {n k : Nat} {g : Pg} (h : pgAt pgs n = some g) : lookL pgs p n (k + 1) e = lookL pgs p (n + 1) k (if bits .and .i64 g.prot p != p then 19 else e) := by rw [lookL, h]

def lookE (pgs : List Pg) (a z : Nat) (p : Int) : Int :=
  if inB a z then (if Maps.size (spD pgs) < (a + z - 1) / 4096 + 1 - a / 4096 then 4 else lookL pgs p (a / 4096) ((a + z - 1) / 4096 + 1 - a / 4096) 0) else 4

set_option maxRecDepth 6000 in
set_option maxHeartbeats 1000000 in
theorem sp_look (w : World) (s b a z : Nat) (p : Int) (pgs : List Pg) (h : SpAt w s b pgs) (hlen : pgs.length ≤ 8192) (ha : a < 2 ^ 64) (hz : z < 2 ^ 64) (hz0 : 0 < z) :
    Calls Try.prog 63 #[.pointer (some ⟨s, 0, none⟩), .int .u64 (a : Int), .int .u64 (z : Int), .int .i64 p] w fun e w' => e = .returned (.int .i64 (lookE pgs a z p)) ∧ Below w.heap.size w w' := by
  have hd3 : ((z : Int) == 0) = false := by rw [beq_eq_false_iff_ne]; omega
  have HI := hid (fun w => sp_in w a z ha hz)
  have c0 : w.cell? ⟨s, 0, none⟩ = some (.map (some b)) := h.row.cell 0
  have H := hid h
  cases hin : inB a z with
  | false =>
    have Hin := hid hin
    have hE : lookE pgs a z p = 4 := by unfold lookE; rw [hin]; rfl
    rw [hE]
    clear hE h hin
    go_enter Try.func63, Try.ntmps63
    go_wp2_with fail
    refine (HI.out w).mono ?_
    rintro e w1 ⟨rfl, rfl⟩
    rw [Hin.out]
    go_wp2_with fail
    go_ret
    exact ⟨rfl, Below.refl _ _⟩
  | true =>
    have hle := inB_le hin
    have Hin := hid hin
    have HN := hid (fun w => sp_numbers w a z hz0 hle)
    obtain ⟨f, hf⟩ : ∃ f, f = a / 4096 := ⟨_, rfl⟩
    obtain ⟨g, hg⟩ : ∃ g, g = (a + z - 1) / 4096 + 1 := ⟨_, rfl⟩
    obtain ⟨N, hN⟩ : ∃ N, N = Maps.size (spD pgs) := ⟨_, rfl⟩
    obtain ⟨R, hR⟩ : ∃ R, R = lookE pgs a z p := ⟨_, rfl⟩
    have hfg : f ≤ g ∧ g < 2 ^ 40 := by omega
    have hR2 : R = if N < g - f then 4 else lookL pgs p f (g - f) 0 := by rw [hR, hN, hg, hf]; unfold lookE; rw [hin]; rfl
    rw [← hf, ← hg] at HN
    rw [← hR]
    have hw : IntKind.u64.wrap ((g : Int) - (f : Int)) = (g : Int) - (f : Int) := IntWalk.u64_in _ (by omega)
    have hw3 : IntKind.u64.wrap (N : Int) = (N : Int) := IntWalk.u64_in _ (by have := h.map.size_le; omega)
    have HR := hid (And.intro hR2 (And.intro hN hfg))
    clear hR2 hN hfg hR hf hg hle hin h ha hz hz0
    go_enter Try.func63, Try.ntmps63
    go_wp2_with fail
    refine (HI.out w).mono ?_
    rintro e w1 ⟨rfl, rfl⟩
    rw [Hin.out]
    go_wp2_with fail
    refine (HN.out w).mono ?_
    rintro e w1 ⟨rfl, rfl⟩
    by_cases hNg : N < g - f
    · have hd6 : decide ((N : Int) < (g : Int) - (f : Int)) = true := by rw [decide_eq_true_eq]; omega
      have HX := hid (show R = 4 from by rw [HR.out.1, if_pos hNg])
      clear hNg
      go_wp2_with (at_len; go_loud (refine wpList_len_own _ rfl _ 90 rfl 22 101 Try.underlying90 _ b pgs.length (spD pgs) rfl H.out.map ?_); rw [← HR.out.2.1])
      go_ret
      exact ⟨by rw [HX.out]; rfl, Below.refl _ _⟩
    · have hd6 : decide ((N : Int) < (g : Int) - (f : Int)) = false := by rw [decide_eq_false_iff_not]; omega
      have HX := hid (show R = lookL pgs p f (g - f) 0 from by rw [HR.out.1, if_neg hNg])
      clear hNg
      go_wp2_with (at_len; go_loud (refine wpList_len_own _ rfl _ 90 rfl 22 101 Try.underlying90 _ b pgs.length (spD pgs) rfl H.out.map ?_); rw [← HR.out.2.1])
      clear c0 hd3 hw hw3 hd6
      go_loopw [11, 12] (fun e i wr => ∃ (n : Nat) (c : Int), f ≤ n ∧ n ≤ g ∧ i = .int .u64 (n : Int) ∧ e = .int .i64 c ∧ R = lookL pgs p n (g - n) c ∧ Below w.heap.size w wr) (fun _ i _ => g - (intOf i).toNat)
      case atStart => exact ⟨f, 0, Nat.le_refl _, HR.out.2.2.1, rfl, rfl, HX.out, Below.refl _ _⟩
      case round =>
        obtain ⟨n, c, hn1, hn2, rfl, rfl, hRn, hb⟩ := hrel
        have Hb := hid hb
        have HRn := hid hRn
        have H2 := hid (H.out.below hb)
        have c1 : wr.cell? ⟨s, 0, none⟩ = some (.map (some b)) := H2.out.row.cell 0
        clear hb hRn
        by_cases hlt : n < g
        · have hltz : decide ((n : Int) < (g : Int)) = true := by rw [decide_eq_true_eq]; omega
          have hlk := H2.out.look_ok (n := n) (by have := HR.out.2.2.2; omega)
          have hsub : g - n = (g - (n + 1)) + 1 := by omega
          have hwr : IntKind.u64.wrap ((n : Int) + 1) = ((n + 1 : Nat) : Int) := IntWalk.u64_in _ (by have := HR.out.2.2.2; omega)
          cases hp : pgAt pgs n with
          | none =>
            rw [hp] at hlk
            dsimp only [Option.isSome, pageZ, pageV] at hlk
            have HX2 := hid (show R = 4 from by rw [HRn.out, hsub, lookL_none hp])
            clear hsub hwr hp
            go_wp2_with fail
            go_ret
            exact ⟨by rw [HX2.out]; rfl, Hb.out.alloc (by have := Hb.out.size; omega) _⟩
          | some q =>
            rw [hp] at hlk
            dsimp only [Option.isSome, pageZ, pageV] at hlk
            have HX2 := hid (show R = lookL pgs p (n + 1) (g - (n + 1)) (if bits .and .i64 q.prot p != p then 19 else c) from by rw [HRn.out, hsub, lookL_some hp])
            clear hsub hp
            have Hwr := hid hwr
            cases hc : bits .and .i64 q.prot p != p with
            | true =>
              have HX3 := hid (show R = lookL pgs p (n + 1) (g - (n + 1)) 19 from by rw [HX2.out, if_pos hc])
              go_wp2_with fail
              go_roundw
              case rel => exact ⟨n + 1, 19, by omega, by omega, rfl, rfl, HX3.out, Hb.out.alloc (by have := Hb.out.size; omega) _⟩
              case measure => simp [intOf]; omega
            | false =>
              have HX3 := hid (show R = lookL pgs p (n + 1) (g - (n + 1)) c from by rw [HX2.out, hc]; rfl)
              go_wp2_with fail
              go_roundw
              case rel => exact ⟨n + 1, c, by omega, by omega, rfl, rfl, HX3.out, Hb.out.alloc (by have := Hb.out.size; omega) _⟩
              case measure => simp [intOf]; omega
        · have hltz : decide ((n : Int) < (g : Int)) = false := by rw [decide_eq_false_iff_not]; omega
          have hng : n = g := by omega
          have HX2 := hid (show R = c from by rw [HRn.out, hng, Nat.sub_self]; rfl)
          clear hng
          go_wp2_with fail
          go_ret
          exact ⟨by rw [HX2.out]; rfl, Hb.out⟩
end Go.Proofs.Ytacmjpkcimjjpaa
