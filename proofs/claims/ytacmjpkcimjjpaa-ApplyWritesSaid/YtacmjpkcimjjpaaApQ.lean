/- What is written and dumped depends on pages' numbers, protections and bytes alone: plain laws. -/
import Derived.Test.YtacmjpkcimjjpaaRsP
import Derived.Test.YtacmjpkcimjjpaaApK
namespace Go.Proofs.Ytacmjpkcimjjpaa
set_option linter.unusedSimpArgs false
set_option linter.unusedVariables false
open Go.RowKit Go.Maps

def Pg.d (g : Pg) : Nat × Int × List UInt8 := (g.no, g.prot, g.bytes)
/-- The same pages, wherever they lie. -/
def Twin (A B : List Pg) : Prop := A.map Pg.d = B.map Pg.d

theorem Twin.len {A B : List Pg} (h : Twin A B) : A.length = B.length := by have := congrArg List.length h; simpa using this
theorem Twin.at_ {A B : List Pg} (h : Twin A B) (n : Nat) : (pgAt A n).map Pg.d = (pgAt B n).map Pg.d := by
  have e : ∀ l : List Pg, (pgAt l n).map Pg.d = (l.map Pg.d).find? (fun k => k.1 == n) := fun l => by unfold pgAt; rw [List.find?_map]; rfl
  rw [e, e, h]
theorem Twin.set {A B : List Pg} (h : Twin A B) (n off : Nat) (cs : List UInt8) : Twin (setPg A n off cs) (setPg B n off cs) := by
  have e : ∀ l : List Pg, (setPg l n off cs).map Pg.d = (l.map Pg.d).map (fun k => if k.1 = n then (k.1, k.2.1, spl k.2.2 off cs) else k) := fun l => by
    unfold setPg
    rw [List.map_map, List.map_map]
    refine List.map_congr_left fun g _ => ?_
    show Pg.d (if g.no = n then _ else g) = if g.no = n then _ else _
    split <;> rfl
  unfold Twin
  rw [e, e, h]
theorem Twin.putB : ∀ (l : List UInt8) {A B : List Pg} (a : Nat), Twin A B → Twin (putB A a l) (putB B a l)
  | [], A, B, a, h => h
  | x :: r, A, B, a, h => Twin.putB r (a + 1) (h.set _ _ _)

theorem Twin.look {A B : List Pg} (h : Twin A B) (p : Int) : ∀ (k n : Nat) (e : Int), lookL A p n k e = lookL B p n k e
  | 0, n, e => rfl
  | k + 1, n, e => by
    have := h.at_ n
    cases hA : pgAt A n with
    | none =>
      cases hB : pgAt B n with
      | none => rw [lookL_none hA, lookL_none hB]
      | some g => rw [hA, hB] at this; cases this
    | some g =>
      cases hB : pgAt B n with
      | none => rw [hA, hB] at this; cases this
      | some g' =>
        rw [hA, hB] at this
        have hp : g.prot = g'.prot := by have := congrArg (fun o : Option (Nat × Int × List UInt8) => o.map (·.2.1)) this; simpa [Pg.d] using this
        rw [lookL_some hA, lookL_some hB, hp]
        exact Twin.look h p k (n + 1) _

theorem Twin.lookE {A B : List Pg} (h : Twin A B) (hA : A.Pairwise (fun x y => x.no ≠ y.no)) (hB : B.Pairwise (fun x y => x.no ≠ y.no)) (a z : Nat) (p : Int) : lookE A a z p = lookE B a z p := by
  unfold Go.Proofs.Ytacmjpkcimjjpaa.lookE
  rw [size_spD hA, size_spD hB, h.len, h.look]

theorem Twin.apE {A B : List Pg} (h : Twin A B) (hA : A.Pairwise (fun x y => x.no ≠ y.no)) (hB : B.Pairwise (fun x y => x.no ≠ y.no)) (f : Fx) (sl : Nat) : apE A f sl = apE B f sl := by
  unfold Go.Proofs.Ytacmjpkcimjjpaa.apE
  rw [h.lookE hA hB]

theorem Twin.write {A B : List Pg} (h : Twin A B) (hA : A.Pairwise (fun x y => x.no ≠ y.no)) (hB : B.Pairwise (fun x y => x.no ≠ y.no)) (hb : ∀ g ∈ A, g.bytes.length = 4096) (f : Fx) (sl tg : Nat) (is : Bool) : Twin (apPgs A f sl tg is) (rapPgs B f sl tg is) := by
  unfold apPgs rapPgs wrPgs wrB
  rw [h.lookE hA hB]
  split
  · split
    · rw [putM_putB _ (Nat.le_refl _) hb]
      exact h.putB _ _
    · exact h
  · exact h

theorem apPgs_keys (pgs : List Pg) (f : Fx) (sl tg : Nat) (is : Bool) : (apPgs pgs f sl tg is).map pgK = pgs.map pgK := by
  unfold apPgs wrPgs
  split
  · split
    · exact putM_keys _ _ _ _
    · rfl
  · rfl

/-- Two pages side by side, sorted by their numbers. -/
theorem two_sorted {ys : List Nat} {f : Nat} (hp : ys.Perm [f, f + 1]) (hs : ys.Pairwise (· ≤ ·)) : ys = [f, f + 1] :=
  List.Perm.eq_of_pairwise (le := (· ≤ ·)) (fun a b _ _ h1 h2 => Nat.le_antisymm h1 h2) hs (by simp) hp

theorem two_runs {x y : Pg} (hn : y.no = x.no + 1) (hp : y.prot = x.prot) : (runsM (pgP [x, y]) [x.no, x.no + 1]).map (pieceM [x, y]) = [(x.no * 4096, x.prot, x.bytes ++ y.bytes)] := by
  have a0 : pgAt [x, y] x.no = some x := by unfold pgAt; simp
  have a1 : pgAt [x, y] (x.no + 1) = some y := by unfold pgAt; simp [hn]
  have p0 : pgP [x, y] x.no = x.prot := by unfold pgP; rw [a0]
  have p1 : pgP [x, y] (x.no + 1) = x.prot := by unfold pgP; rw [a1]; exact hp
  have r : runsM (pgP [x, y]) [x.no, x.no + 1] = [(x.no, x.no + 2)] := by
    simp [runsM, runStep, p0, p1]
  rw [r]
  have b0 : pgB [x, y] x.no = x.bytes := by unfold pgB; rw [a0]
  have b1 : pgB [x, y] (x.no + 1) = y.bytes := by unfold pgB; rw [a1]
  simp [pieceM, p0, bytesM, b0, b1]

theorem two_pages {l : List Pg} {f : Nat} (h : l.map (·.no) = List.range' f 2) : ∃ x y, l = [x, y] ∧ x.no = f ∧ y.no = f + 1 := by
  match l, h with
  | [x, y], h => exact ⟨x, y, rfl, by simp [List.range'] at h; exact h.1, by simp [List.range'] at h; exact h.2⟩
  | [], h => simp [List.range'] at h
  | [x], h => simp [List.range'] at h
  | _ :: _ :: _ :: _, h => simp [List.range'] at h

theorem nos_of_keys {p q : List Pg} (h : p.map pgK = q.map pgK) : p.map (·.no) = q.map (·.no) := by
  have e : ∀ l : List Pg, l.map (·.no) = (l.map pgK).map (·.1) := fun l => by rw [List.map_map]; rfl
  rw [e, e, h]
theorem prots_of_keys {p q : List Pg} (h : p.map pgK = q.map pgK) : p.map (·.prot) = q.map (·.prot) := by
  have e : ∀ l : List Pg, l.map (·.prot) = (l.map pgK).map (·.2.1) := fun l => by rw [List.map_map]; rfl
  rw [e, e, h]
theorem nos_of_twin {p q : List Pg} (h : Twin p q) : p.map (·.no) = q.map (·.no) := by
  have e : ∀ l : List Pg, l.map (·.no) = (l.map Pg.d).map (·.1) := fun l => by rw [List.map_map]; rfl
  rw [e, e, h]

/-- Behind the write: the two lists of pieces hold the same. -/
theorem same_dump {A B : List Pg} {f : Nat} {p : Int} (h : Twin A B) (hn : A.map (·.no) = List.range' f 2) (hp : ∀ g ∈ A, g.prot = p) {ys : List Nat} (hy : ys.Perm (A.map (·.no))) (hs : ys.Pairwise (· ≤ ·)) :
    ∃ x y, B = [x, y] ∧ y.no = x.no + 1 ∧ y.prot = x.prot ∧ (runsM (pgP A) ys).map (pieceM A) = [(x.no * 4096, x.prot, x.bytes ++ y.bytes)] := by
  obtain ⟨x, y, rfl, hx, hy'⟩ := two_pages hn
  obtain ⟨x', y', rfl, hx', hy''⟩ := two_pages ((nos_of_twin h).symm.trans hn)
  unfold Twin at h
  simp only [List.map_cons, List.map_nil, List.cons.injEq, and_true, Pg.d, Prod.mk.injEq] at h
  obtain ⟨⟨h1, h2, h3⟩, h4, h5, h6⟩ := h
  have hpx := hp x (by simp)
  have hpy := hp y (by simp)
  have e : ys = [x.no, x.no + 1] := by
    refine two_sorted ?_ hs
    simp only [List.map_cons, List.map_nil, hy'] at hy
    rw [hx]
    rw [hx] at hy
    exact hy
  refine ⟨x', y', rfl, by omega, by rw [← h5, ← h2, hpx, hpy], ?_⟩
  rw [e, two_runs (by omega) (by rw [hpx, hpy]), h1, h2, h3, h6]
end Go.Proofs.Ytacmjpkcimjjpaa
