/- ApplyWrites: the walk. -/
import Derived.Test.YtacmjpkcimjjpaaApR
import Derived.Deep.RegionHeld3
namespace Go.Proofs.Ytacmjpkcimjjpaa
set_option linter.unusedSimpArgs false
set_option linter.unusedVariables false
open Go.RowKit Go.Maps

theorem twin_new {A B : List Pg} {l : List Nat} {p : Int} {z : List UInt8} (hA : A.map (·.no) = l) (hB : B.map (·.no) = l) (pA : ∀ g ∈ A, g.prot = p ∧ g.bytes = z) (pB : ∀ g ∈ B, g.prot = p ∧ g.bytes = z) : Twin A B := by
  have e : ∀ C : List Pg, C.map (·.no) = l → (∀ g ∈ C, g.prot = p ∧ g.bytes = z) → C.map Pg.d = l.map (fun n => (n, p, z)) := fun C h hp => by
    rw [← h, List.map_map]
    refine List.map_congr_left fun g hg => ?_
    show (g.no, g.prot, g.bytes) = (g.no, p, z)
    rw [(hp g hg).1, (hp g hg).2]
  exact (e A hA pA).trans (e B hB pB).symm

/-- What the last statement stands on. -/
structure Last (w : World) (T Bx s b r : Nat) (vA vB vP : Value) (f : Fx) (A B A1 B1 : List Pg) (sl tg : Nat) (is : Bool) (E : Int) (d : Nat × Int × List UInt8) : Prop where
  c1 : ∀ W, RI w T Bx s b r vA vB vP f A B W → Calls Try.prog 7 #[.pointer (some ⟨s, 0, none⟩), .int .u64 (sl : Int), .agg #[.int .u64 (f.at_ : Int), .int .i64 f.kind, .int .u64 (f.tgt : Int), .int .i64 f.ord, .string (mkS f.sym), .int .i64 f.add, .bool f.weak], .int .u64 (tg : Int), .bool is] W fun e w' => e = .returned (.int .i64 E) ∧ RI w T Bx s b r vA vB vP f A1 B w'
  c2 : ∀ W, RI w T Bx s b r vA vB vP f A1 B W → Calls Try.prog 13 #[.pointer (some ⟨r, 0, none⟩), .int .u64 (sl : Int), .agg #[.int .u64 (f.at_ : Int), .int .i64 f.kind, .int .u64 (f.tgt : Int), .int .i64 f.ord, .string (mkS f.sym), .int .i64 f.add, .bool f.weak], .int .u64 (tg : Int), .bool is] W fun e w' => e = .returned (.int .i64 E) ∧ RI w T Bx s b r vA vB vP f A1 B1 w'
  c3 : ∀ W, RI w T Bx s b r vA vB vP f A1 B1 W → Calls Try.prog 15 #[.pointer (some ⟨s, 0, none⟩)] W fun e w' => ∃ v, e = .returned v ∧ HasP d v w' ∧ Below W.heap.size W w'
  c4 : ∀ W, RI w T Bx s b r vA vB vP f A1 B1 W → Calls Try.prog 16 #[.pointer (some ⟨r, 0, none⟩)] W fun e w' => ∃ v, e = .returned v ∧ HasP d v w' ∧ Below W.heap.size W w'

theorem last_of {w : World} {T Bx s b r : Nat} {vA vB vP : Value} {f : Fx} {A B : List Pg} {W : World} (h : RI w T Bx s b r vA vB vP f A B W) (ht : Twin A B) {no : Nat} {p : Int} (hn : A.map (·.no) = List.range' no 2) (hp : ∀ g ∈ A, g.prot = p) (hpp : 1 ≤ p ∧ p ≤ 7) (hno : no < 34359738360)
    (hf : f.In) (hl : f.sym.length ≤ 140737488355328) (sl tg : Nat) (is : Bool) (hs : sl < 18446744073709551616) (htg : tg < 18446744073709551616) : ∃ A1 B1 E d, Last w T Bx s b r vA vB vP f A B A1 B1 sl tg is E d := by
  have hA := h.sp.nos
  have hB : B.Pairwise (fun x y => x.no ≠ y.no) := h.rf.nos.imp (fun h => Nat.ne_of_lt h)
  have lA : A.length = 2 := by have := congrArg List.length hn; simpa using this
  have lB : B.length = 2 := by rw [← ht.len]; exact lA
  have prB : ∀ g ∈ B, 0 ≤ g.prot ∧ g.prot ≤ 7 := fun g hg => by
    have : g.d ∈ A.map Pg.d := by rw [ht]; exact List.mem_map.2 ⟨g, hg, rfl⟩
    obtain ⟨g', h1, h2⟩ := List.mem_map.1 this
    have e : g'.prot = g.prot := congrArg (fun x : Nat × Int × List UInt8 => x.2.1) h2
    rw [← e, hp g' h1]; omega
  have hk := apPgs_keys A f sl tg is
  have prA : ∀ g ∈ apPgs A f sl tg is, g.prot = p := fun g hg => by
    obtain ⟨g', h1, h2⟩ := mem_keys hk.symm hg
    have e : g'.prot = g.prot := congrArg (fun x : Nat × Int × Nat => x.2.1) h2
    rw [← e]; exact hp g' h1
  obtain ⟨d, c3, c4⟩ := ri_dumps (w := w) (T := T) (Bx := Bx) (s := s) (b := b) (r := r) (vA := vA) (vB := vB) (vP := vP) (f := f) (ht.write hA hB (fun g hg => (h.sp.pages g hg).2.1) f sl tg is) ((nos_of_keys hk).trans hn) prA hno
  refine ⟨apPgs A f sl tg is, rapPgs B f sl tg is, apE A f sl, d, ⟨fun W h => ri_write (by omega) hf sl tg is hs htg W h, fun W h => ?_, c3, c4⟩⟩
  rw [ht.apE hA hB]
  exact ri_rwrite (by omega) prB hf hl sl tg is hs htg W h

theorem hid_below {w w1 w2 : World} (h : Below w.heap.size w w1) (hb : Below w1.heap.size w1 w2) : Below w.heap.size w w2 := h.trans (hb.mono h.size)

set_option maxRecDepth 100000 in
set_option maxHeartbeats 4000000 in
theorem ap_law_writes (w : World) (page sl tg : Nat) (prot : Int) (f : Fx) (is : Bool) (hsl : sl < 18446744073709551616) (htg : tg < 18446744073709551616) (hf : f.In) :
    Calls Try.prog 4 #[.int .u64 (page : Int), .int .i64 prot, .int .u64 (sl : Int), f.v, .int .u64 (tg : Int), .bool is] w fun e w' => e = .returned (.bool true) ∧ Below w.heap.size w w' := by
  obtain ⟨L, hL⟩ : ∃ L, L = f.sym.length := ⟨_, rfl⟩
  have hsz : (mkS f.sym).size = L := by rw [mkS_size, hL]
  obtain ⟨W0, hW0⟩ : ∃ W0, W0 = w.alloc (.cells #[.int .u64 (f.at_ : Int), .int .i64 f.kind, .int .u64 (f.tgt : Int), .int .i64 f.ord, .string (mkS f.sym), .int .i64 f.add, .bool f.weak] 25) := ⟨_, rfl⟩
  have hrow : RowAt W0 w.heap.size 25 f.cells := by rw [hW0]; exact heap_alloc_new _ _
  have hbl0 : Below w.heap.size w W0 := by rw [hW0]; exact (Below.refl _ _).alloc (Nat.le_refl _) _
  have hs0 : W0.heap.size = w.heap.size + 1 := by rw [hW0]; simp
  have H0 := hid (And.intro hrow (And.intro hbl0 (And.intro hs0 (And.intro hW0 (And.intro hsl (And.intro htg (And.intro hf hL)))))))
  clear hrow hbl0 hs0 hW0 hsl htg hf hL
  unfold Fx.v
  have hcase : ((decide ((1073741824 : Int) < (page : Int)) = true ∧ decide (1073741824 < page) = true) ∨
      ((decide ((1073741824 : Int) < (page : Int)) = false ∧ decide (1073741824 < page) = false) ∧ decide (prot < 1) = true) ∨
      ((decide ((1073741824 : Int) < (page : Int)) = false ∧ decide (1073741824 < page) = false) ∧ decide (prot < 1) = false ∧ decide (7 < prot) = true) ∨
      ((decide ((1073741824 : Int) < (page : Int)) = false ∧ decide (1073741824 < page) = false) ∧ decide (prot < 1) = false ∧ decide (7 < prot) = false ∧ (decide ((600 : Int) < (L : Int)) = true ∧ decide (600 < L) = true))) ∨
      ((page ≤ 1073741824 ∧ 1 ≤ prot ∧ prot ≤ 7 ∧ L ≤ 600) ∧ (decide ((1073741824 : Int) < (page : Int)) = false ∧ decide (1073741824 < page) = false) ∧ decide (prot < 1) = false ∧ decide (7 < prot) = false ∧ (decide ((600 : Int) < (L : Int)) = false ∧ decide (600 < L) = false)) := by
    simp only [decide_eq_true_eq, decide_eq_false_iff_not]
    omega
  rcases hcase with hg | ⟨hin, ⟨d1, d2⟩, d3, d4, d5, d6⟩
  · rcases hg with ⟨d1, d2⟩ | ⟨⟨d1, d2⟩, d3⟩ | ⟨⟨d1, d2⟩, d3, d4⟩ | ⟨⟨d1, d2⟩, d3, d4, d5, d6⟩
    all_goals
      go_enter Try.func4, Try.ntmps4
      go_wp2_with fail
      rw [← H0.out.2.2.2.1]
      refine (ap_known _).mono ?_
      rintro e w1 ⟨rfl, hb⟩
      have H1 := hid (hid_below H0.out.2.1 hb)
      clear hb
      go_wp2_with fail
      go_ret
      exact ⟨rfl, H1.out⟩
  · obtain ⟨a, ha⟩ : ∃ a, a = page * 4096 := ⟨_, rfl⟩
    have hwa : IntKind.u64.wrap ((page : Int) * 4096) = (a : Int) := (IntWalk.u64_in _ (by omega)).trans (by omega)
    have HP := hid (And.intro hin ha)
    clear hin ha
    go_enter Try.func4, Try.ntmps4
    go_wp2_with fail
    rw [← H0.out.2.2.2.1]
    refine (sp_new _).mono ?_
    rintro e w1 ⟨s, b, rfl, hsp, hs, hb, hbel⟩
    obtain ⟨r, hr⟩ : ∃ r, r = w1.heap.size := ⟨_, rfl⟩
    obtain ⟨W2, hW2⟩ : ∃ W2, W2 = w1.alloc (.cells #[.slice none 0 0, .slice none 0 0, .slice none 0 0] 44) := ⟨_, rfl⟩
    have hb12 : Below w1.heap.size w1 W2 := by rw [hW2]; exact (Below.refl _ _).alloc (Nat.le_refl _) _
    have hs2 : W2.heap.size = r + 1 := by rw [hW2, hr]; simp
    have hsp2 := hsp.below hb12
    have hrr : RowAt W2 r 44 #[.slice none 0 0, .slice none 0 0, .slice none 0 0] := by rw [hW2, hr]; exact heap_alloc_new _ _
    have hrB := (H0.out.1.below hbel).below hb12
    have hbw2 := hid_below (hid_below H0.out.2.1 hbel) hb12
    rw [H0.out.2.2.1] at hs hb
    have hsr : s < r ∧ b < r := by have := hsp.lt; omega
    have hsb := hsp.ne.1
    have H2 := hid (And.intro hsp2 (And.intro hrr (And.intro hrB (And.intro hbw2 (And.intro hs2 (And.intro hs (And.intro hb (And.intro hsr (And.intro hsb (And.intro hW2 hr))))))))))
    clear hsp hs hb hbel hb12 hs2 hsp2 hrr hrB hbw2 hsr hsb hW2 hr
    go_wp2_with fail
    rw [← H2.out.2.2.2.2.2.2.2.2.2.1, ← H2.out.2.2.2.2.2.2.2.2.2.2]
    obtain ⟨⟨q1, q2, q3, q4⟩, q5⟩ := HP.out
    have hinB : inB a 8192 = true := by unfold inB; rw [Bool.and_eq_true, decide_eq_true_eq, decide_eq_true_eq]; omega
    refine (sp_map W2 s b a 8192 prot [] H2.out.1 (by omega) (by decide) (by decide) ⟨q2, q3⟩ hinB rfl (by decide)).mono ?_
    rintro e w3 ⟨rfl, A, hnew, hsp3, hgr3⟩
    rw [List.nil_append] at hsp3
    have hnoA : A.map (·.no) = List.range' page 2 := by
      have := hnew.nos
      rw [show a / 4096 + 8192 / 4096 - a / 4096 = 2 from by omega, show a / 4096 = page from by omega] at this
      exact this
    have hisA := hnew.is
    have hrr3 : RowAt w3 r 44 #[.slice none 0 0, .slice none 0 0, .slice none 0 0] := H2.out.2.1.grown hgr3 (fun e => by have := H2.out.2.2.2.2.2.2.2.1; cases e; omega)
    have hrB3 := H2.out.2.2.1.grown hgr3 (fun e => by have := H2.out.2.2.2.2.2.2.1; cases e; omega)
    have hbw3 : Below w.heap.size w w3 := H2.out.2.2.2.1.grown hgr3 H2.out.2.2.2.1.size (fun k e => by have := H2.out.2.2.2.2.2.2.1; cases e; omega)
    have H3 := hid (And.intro hsp3 (And.intro hnoA (And.intro hisA (And.intro hrr3 (And.intro hrB3 (And.intro hbw3 hinB))))))
    clear hnew hsp3 hgr3 hnoA hisA hrr3 hrB3 hbw3 hinB q1 q2 q3 q4 q5
    go_wp2_with fail
    obtain ⟨⟨q1, q2, q3, q4⟩, q5⟩ := HP.out
    refine (rs_map0 w.heap.size w3 r a 8192 prot H3.out.2.2.2.1 (by have := H2.out.2.2.2.2.2.1; have := H2.out.2.2.2.2.2.2.2.1; omega) (by omega) (by decide) (by decide) (by decide) ⟨q2, q3⟩ H3.out.2.2.2.2.2.2).mono ?_
    rintro e w4 ⟨rfl, vA, vB, vP, B, hrsp, hnoB, hisB, hgr4, how⟩
    rw [show 8192 / 4096 = 2 from rfl, show a / 4096 = page from by omega] at hnoB
    have hlA := H3.out.1.lt
    have hord : w.heap.size ≤ w.heap.size ∧ w.heap.size < s ∧ w.heap.size < b ∧ s < r ∧ b < r ∧ r < w3.heap.size := by
      have := H2.out.2.2.2.2.2.1; have := H2.out.2.2.2.2.2.2.1; have := H2.out.2.2.2.2.2.2.2.1; have := H3.out.2.2.2.1.lt; omega
    have hpA : ∀ g ∈ A, r < g.blk ∧ g.blk < w3.heap.size := fun g hg => by
      have h1 := (H3.out.2.2.1 g hg).2.2
      have h2 := hlA.2.2 g hg
      have := H2.out.2.2.2.2.1
      omega
    have hri : RI w w3.heap.size w.heap.size s b r vA vB vP f A B w4 :=
      ⟨H3.out.1.kept hgr4 (fun e => by cases e; omega) (fun e => by cases e; omega) (fun g hg e => by have := hpA g hg; cases e; omega), hrsp, H3.out.2.2.2.2.1.grown hgr4 (fun e => by cases e; omega),
        H3.out.2.2.2.2.2.1.grown hgr4 H3.out.2.2.2.2.2.1.size (fun k e => by cases e; omega), hord, hpA, fun g hg => (hisB g hg).2.2, how⟩
    have htw : Twin A B := twin_new H3.out.2.1 hnoB (fun g hg => ⟨(H3.out.2.2.1 g hg).1, (H3.out.2.2.1 g hg).2.1⟩) (fun g hg => ⟨(hisB g hg).1, (hisB g hg).2.1⟩)
    obtain ⟨A1, B1, E, d, hlast⟩ := last_of hri htw H3.out.2.1 (fun g hg => (H3.out.2.2.1 g hg).1) ⟨q2, q3⟩ (by omega) H0.out.2.2.2.2.2.2.1 (by have := H0.out.2.2.2.2.2.2.2; omega) sl tg is H0.out.2.2.2.2.1 H0.out.2.2.2.2.2.1
    have hri' : RI w w3.heap.size w.heap.size s b r vA vB vP f A B w4.drew := hri.next ⟨rfl, rfl, rfl, Nat.le_refl _, fun _ _ => rfl⟩
    have HI := hid hri'
    have HL := hid hlast
    clear hrsp hnoB hisB hgr4 how hlA hord hpA hri htw hri' hlast q1 q2 q3 q4 q5
    go_wp2_with fail
    have hi := HI.out
    go_region_held3 (fun W => W.cell? ⟨w.heap.size, 0, none⟩ = some (.int .u64 (f.at_ : Int)) ∧ W.cell? ⟨w.heap.size, 1, none⟩ = some (.int .i64 f.kind) ∧ W.cell? ⟨w.heap.size, 2, none⟩ = some (.int .u64 (f.tgt : Int)) ∧ W.cell? ⟨w.heap.size, 3, none⟩ = some (.int .i64 f.ord) ∧ W.cell? ⟨w.heap.size, 4, none⟩ = some (.string (mkS f.sym)) ∧ W.cell? ⟨w.heap.size, 5, none⟩ = some (.int .i64 f.add) ∧ W.cell? ⟨w.heap.size, 6, none⟩ = some (.bool f.weak)) (exact hi.all)
      (first
        | (go_at_call 7; (with_reducible refine (HL.out.c1 _ hi).mono ?_); rintro e w5 ⟨rfl, hi⟩)
        | (go_at_call 13; (with_reducible refine (HL.out.c2 _ hi).mono ?_); rintro e w6 ⟨rfl, hi⟩)
        | (go_at_call 15; (with_reducible refine (HL.out.c3 _ hi).mono ?_); rintro e w7 ⟨v7, rfl, hv7, hb⟩; have hi := hi.next hb; clear hb)
        | (go_at_call 16; (with_reducible refine (HL.out.c4 _ hi).mono ?_); rintro e w8 ⟨v8, rfl, hv8, hb⟩; have hi := hi.next hb; have hv7 := hv7.below hb; clear hb)
        | (go_at_call 14; (with_reducible refine (same_hasP hv7 hv8).mono ?_); rintro e w9 ⟨rfl, hb⟩; have hi := hi.next hb; clear hb hv7 hv8)
        | (go_at_call 10; (with_reducible refine (ap_known _).mono ?_); rintro e w10 ⟨rfl, hb⟩; have hi := hi.next hb; clear hb)
        | fail "no call")
    all_goals
      have Hi := hid hi.bel
      clear hi
      go_wp2_with fail
      go_ret
      exact ⟨rfl, Hi.out⟩
end Go.Proofs.Ytacmjpkcimjjpaa
