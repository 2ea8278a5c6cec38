/- A region inside the round of a range over a function: walked as outside of one. No program in sight. -/
import Derived.Test.YtjfkgdfmkofbmaaGreatDoorZIt
import Derived.Deep.RegionHeld
import Derived.OrdersIn
namespace Go.Proofs.YtjfkgdfmkofbmaaGreatDoor
set_option linter.unusedSimpArgs false
set_option linter.unusedVariables false
open Go.RowKit

/-- No operation defers. -/
def tameB (ops : Array Oper) : Bool := ops.all fun o => match o.op with
  | .defer _ => false
  | _ => true
theorem tame_at {ops : Array Oper} (h : tameB ops = true) {i : Nat} {o : Oper} (hi : ops[i]? = some o) : ∀ c, o.op ≠ .defer c := by
  intro c hc
  unfold tameB at h
  rw [Array.all_eq_true_iff_forall_mem] at h
  have := h o (Array.mem_of_getElem? hi)
  rw [hc] at this
  cases this

theorem rowsIn_of {l n : Nat} {P : Program} {row : String} {args : Array Value} {w : World} {R : Value → World → Prop} (h : Rows P row args w R) : RowsIn (Fence.wide.inRound l) n P row args w R := by
  intro c cs _
  obtain ⟨v, w', r, s⟩ := h c cs
  exact ⟨v, w', r, (stepsIn_wide (P := P)).2 s⟩

theorem operIn_of {l n : Nat} {P : Program} {o : Oper} (ho : ∀ c, o.op ≠ .defer c) {a : Act} {w : World} {K : Act → World → Prop} {Q : Exit → Act → World → Prop} (h : Oper.wp P o a w K Q) : Oper.wpIn (Fence.wide.inRound l) n P o a w K Q := by
  refine ⟨fun _ _ => trivial, ?_⟩
  unfold Oper.wp at h
  rw [show o.semAt (Fence.wide.inRound l).round a.eval = execOp a.eval o from Oper.semAt_some l _ _ ho]
  generalize (execOp a.eval o).run P w = r at *
  cases r with
  | ok x w' =>
    cases x <;> simp only [Oper.upon] at h <;> simp only [Oper.uponIn] <;>
      first
        | exact h
        | exact ⟨fun h => by simp [Fence.inRound, Fence.wide] at h, CallsIn.inRound l (callsIn_wide.2 h)⟩
        | exact ⟨fun h => by simp [Fence.inRound, Fence.wide] at h, rowsIn_of h⟩
  | halt x w' => cases x <;> simp only [Oper.upon] at h <;> simp only [Oper.uponIn] <;> exact h

theorem anyIn_of {l n : Nat} {P : Program} {md : Region.Mode} {ops : Array Oper} {Q : Exit → Act → World → Prop} (ht : tameB ops = true) (hl : ¬ LetsOut Q) :
    ∀ (fuel : Nat) (listed : Array Bool) (a : Act) (w : World), wpAny P md ops Q fuel listed a w → wpAnyIn (Fence.wide.inRound l) n P md ops Q fuel listed a w
  | 0, _, _, _, h => h
  | fuel + 1, listed, a, w, h => by
    refine ⟨h.1, fun i hi => ?_⟩
    have h2 := h.2 i hi
    unfold wpOp at h2
    unfold wpOpIn
    cases ho : ops[i]? with
    | none =>
      rw [ho] at h2
      exact anyIn_of ht hl fuel _ a w h2
    | some o =>
      rw [ho] at h2
      dsimp only at h2 ⊢
      split
      · rename_i hw
        rw [if_pos hw] at h2
        rcases h2 with h2 | h2
        · exact Oper.wpIn_mono (fun a' w' h' => anyIn_of ht hl fuel _ a' w' h') (operIn_of (tame_at ht ho) h2)
        · exact absurd h2.2 hl
      · rename_i hw
        rw [if_neg hw] at h2
        exact ⟨fun _ _ => trivial, anyIn_of ht hl fuel _ _ _ h2⟩

/-- A region that draws its order, inside a round. -/
theorem region_round {l n : Nat} {P : Program} {id : Nat} {ops : Array Oper} {Q : Exit → Act → World → Prop} {a : Act} {w : World} (S : World → Prop) (hm : P.follows .mixedOrders = true) (ht : tameB ops = true) (hl : ¬ LetsOut Q)
    (hS : S w.drew) (h : S w.drew → wpAnyH P .any ops Q S ops.size (Array.replicate ops.size false) a w.drew) : (Code.region id ops true).wpIn (Fence.wide.inRound l) n P Q a w :=
  wpIn_region_any hm (anyIn_of ht hl _ _ _ _ (wpAny_of_held _ _ _ _ (h hS)))
end Go.Proofs.YtjfkgdfmkofbmaaGreatDoor

namespace Go.Proofs.YtjfkgdfmkofbmaaGreatDoor
set_option linter.unusedSimpArgs false
set_option linter.unusedVariables false
open Go.RowKit

/-- Has one of the late operations come up? -/
def stB (ss : List Nat) (listed : Array Bool) : Bool := ss.any fun j => listed.getD j false
/-- Does number j wait for number i, over at most so many others? -/
def waitsB (md : Region.Mode) (ops : Array Oper) (i : Nat) : Nat → Nat → Bool
  | 0, _ => false
  | f + 1, j => match ops[j]? with
    | some oj => oj.after.any fun e => Region.binds md e && (e.on == i || waitsB md ops i f e.on)
    | none => false
/-- Does each late operation wait for number i? -/
def lateB (md : Region.Mode) (ops : Array Oper) (ss : List Nat) (i : Nat) : Bool := ss.all fun j => waitsB md ops i 4 j
/-- What has come up has not come up ahead of what it waits for. -/
def ClosedP (md : Region.Mode) (ops : Array Oper) (listed : Array Bool) : Prop := ∀ p o, ops[p]? = some o → listed.getD p false = true → ∀ e ∈ o.after, Region.binds md e = true → listed.getD e.on false = true
def closedB (md : Region.Mode) (ops : Array Oper) (listed : Array Bool) : Bool := (List.range ops.size).all fun p => !listed.getD p false || match ops[p]? with
  | some o => o.after.all fun e => !Region.binds md e || listed.getD e.on false
  | none => true
theorem closed_of {md : Region.Mode} {ops : Array Oper} {listed : Array Bool} (h : closedB md ops listed = true) : ClosedP md ops listed := by
  intro p o hp hl e he hb
  unfold closedB at h
  rw [List.all_eq_true] at h
  have := h p (List.mem_range.2 (Array.getElem?_eq_some_iff.1 hp).1)
  rw [hp, hl] at this
  simp only [Bool.not_true, Bool.false_or] at this
  rw [Array.all_eq_true_iff_forall_mem] at this
  have := this e he
  rw [hb] at this
  simpa using this
theorem waits_not {md : Region.Mode} {ops : Array Oper} {listed : Array Bool} {i : Nat} (hc : ClosedP md ops listed) (hi : listed.getD i false = false) : ∀ (f j : Nat), waitsB md ops i f j = true → ∃ oj, ops[j]? = some oj ∧ ∃ e ∈ oj.after, Region.binds md e = true ∧ listed.getD e.on false = false
  | 0, j, h => by simp [waitsB] at h
  | f + 1, j, h => by
    unfold waitsB at h
    cases ho : ops[j]? with
    | none => rw [ho] at h; cases h
    | some oj =>
      rw [ho] at h
      dsimp only at h
      rw [Array.any_eq_true] at h
      obtain ⟨n, hn, he⟩ := h
      simp only [Bool.and_eq_true, Bool.or_eq_true, beq_iff_eq] at he
      refine ⟨oj, rfl, _, Array.getElem_mem hn, he.1, ?_⟩
      rcases he.2 with e | e
      · rw [e]; exact hi
      · obtain ⟨ok, h1, e2, h2, h3, h4⟩ := waits_not hc hi f _ e
        rw [← Bool.not_eq_true]
        intro hl
        rw [hc _ ok h1 hl e2 h2 h3] at h4
        cases h4

section
variable {P : Program} {ops : Array Oper} {Q : Exit → Act → World → Prop} {md : Region.Mode} {S S0 : World → Prop} {ss : List Nat}

theorem stB_set {listed : Array Bool} {i : Nat} (hi : ss.contains i = false) : stB ss (listed.setIfInBounds i true) = stB ss listed := by
  unfold stB
  rw [Bool.eq_iff_iff, List.any_eq_true, List.any_eq_true]
  have hne : ∀ j ∈ ss, i ≠ j := fun j hj e => by
    subst e
    rw [← Bool.not_eq_true] at hi
    exact hi (by simpa using hj)
  constructor
  · rintro ⟨j, hj, h⟩
    exact ⟨j, hj, by rwa [getD_set_ne false (hne j hj)] at h⟩
  · rintro ⟨j, hj, h⟩
    exact ⟨j, hj, by rwa [getD_set_ne false (hne j hj)]⟩
theorem stB_mono {listed : Array Bool} {i : Nat} (h : stB ss listed = true) : stB ss (listed.setIfInBounds i true) = true := by
  unfold stB at *
  rw [List.any_eq_true] at *
  obtain ⟨j, hj, h⟩ := h
  refine ⟨j, hj, ?_⟩
  by_cases e : i = j
  · subst e
    have hs : i < listed.size := by
      rcases Nat.lt_or_ge i listed.size with h' | h'
      · exact h'
      · simp [Array.getElem?_eq_none h'] at h
    simp [hs]
  · rwa [getD_set_ne false e]

def wpAnyG (P : Program) (md : Region.Mode) (ops : Array Oper) (Q : Exit → Act → World → Prop) (S : World → Prop) (ss : List Nat) : Nat → Array Bool → Act → World → Prop
  | 0, listed, a, w => Region.ready md ops listed = [] ∧ Q .normal a w
  | fuel + 1, listed, a, w =>
    (Region.ready md ops listed = [] → Q .normal a w) ∧
    ∀ i ∈ Region.ready md ops listed, wpOp P ops Q i (fun a' w' => (stB ss (listed.setIfInBounds i true) = true ∨ S w') ∧ wpAnyG P md ops Q S ss fuel (listed.setIfInBounds i true) a' w') a w

theorem wpAny_of_G : ∀ (fuel : Nat) (listed : Array Bool) (a : Act) (w : World), wpAnyG P md ops Q S ss fuel listed a w → wpAny P md ops Q fuel listed a w
  | 0, _, _, _, h => h
  | fuel + 1, _, _, _, h => ⟨h.1, fun i hi => wpOp_mono (fun a' w' h' => wpAny_of_G fuel _ a' w' h'.2) (h.2 i hi)⟩

theorem wpAnyG_first {i : Nat} {oi : Oper} {v : Value} (hi : ops[i]? = some oi) (hsel : ∀ (j : Nat) (o : Oper) cs b, ops[j]? = some o → o.op ≠ .select cs b)
    (hQ : ∀ c a w, Q (.panic c) (a.put oi.dst v) w → Q (.panic c) a w) (hni : ss.contains i = false) (hmode : (∀ w, S0 w) ∨ ((∀ w, S w → S0 w) ∧ lateB md ops ss i = true)) :
    ∀ (fuel : Nat) (listed : Array Bool) (a : Act) (w : World),
      (∀ j oj, ops[j]? = some oj → j ≠ i → listed.getD j true = false → (∀ e ∈ oj.after, Region.binds md e = true → e.on ≠ i) → oi.apart ops oj = true) →
      i ∈ Region.ready md ops listed → YieldsIf P ops S0 oi v a → S0 w → (stB ss listed = true ∨ S w) → ((∀ w, S0 w) ∨ (stB ss listed = false ∧ ClosedP md ops listed)) →
      wpAnyG P md ops Q S ss fuel (listed.setIfInBounds i true) (a.put oi.dst v) w → wpAnyG P md ops Q S ss (fuel + 1) listed a w := by
  have here : ∀ {listed : Array Bool} {w : World}, (stB ss listed = true ∨ S w) → (stB ss (listed.setIfInBounds i true) = true ∨ S w) := fun h => h.imp stB_mono id
  intro fuel
  induction fuel with
  | zero =>
    intro listed a w _ hr hy hS hc hst H
    refine ⟨fun h => (by rw [h] at hr; cases hr), fun j hj => ?_⟩
    by_cases hji : j = i
    · subst hji; exact hy.wpOp hi hS ⟨here hc, H⟩
    · have := ready_mono hj hji
      rw [H.1] at this
      cases this
  | succ fuel ih =>
    intro listed a w hfree hr hy hS hc hst H
    refine ⟨fun h => (by rw [h] at hr; cases hr), fun j hj => ?_⟩
    by_cases hji : j = i
    · subst hji; exact hy.wpOp hi hS ⟨here hc, H⟩
    · have h1 := H.2 j (ready_mono hj hji)
      obtain ⟨hjun, oj, hoj, hall⟩ := mem_ready.1 hj
      have hnot : ∀ e ∈ oj.after, Region.binds md e = true → e.on ≠ i := fun e he hb heq => by
        have h1 := hall e he hb
        have h0 := (mem_ready.1 hr).1
        rw [heq] at h1
        rcases Nat.lt_or_ge i listed.size with h' | h'
        · simp [h'] at h0 h1; rw [h0] at h1; cases h1
        · simp [Array.getElem?_eq_none h'] at h1
      have h2 := wpOp_putIf hoj (hfree j oj hoj hji hjun hnot) (fun cs b => hsel i oi cs b hi) (fun cs b => hsel j oj cs b hoj) hQ hy h1
      have hfree' : ∀ k ok, ops[k]? = some ok → k ≠ i → (listed.setIfInBounds j true).getD k true = false →
          (∀ e ∈ ok.after, Region.binds md e = true → e.on ≠ i) → oi.apart ops ok = true := fun k ok hk hki hun hno => by
        refine hfree k ok hk hki ?_ hno
        by_cases hjk : j = k
        · subst hjk; exact hjun
        · rw [getD_set_ne true hjk] at hun; exact hun
      have hlist : stB ss ((listed.setIfInBounds i true).setIfInBounds j true) = stB ss (listed.setIfInBounds j true) := by
        rw [Array.setIfInBounds_comm _ _ (Ne.symm hji)]; exact stB_set hni
      have hun : listed.getD i false = false := by
        have h0 := (mem_ready.1 hr).1
        rcases Nat.lt_or_ge i listed.size with h' | h'
        · simpa [h'] using h0
        · simp [Array.getElem?_eq_none h']
      have hst' : (∀ w, S0 w) ∨ (stB ss (listed.setIfInBounds j true) = false ∧ ClosedP md ops (listed.setIfInBounds j true)) := by
        rcases hst with h | ⟨h, hcl⟩
        · exact .inl h
        · rcases hmode with hm | ⟨hm, hl⟩
          · exact .inl hm
          · refine .inr ⟨?_, ?_⟩
            · rw [stB_set, h]
              rw [← Bool.not_eq_true]
              intro hjs
              have hjs : j ∈ ss := by simpa using hjs
              unfold lateB at hl
              rw [List.all_eq_true] at hl
              obtain ⟨ok, h1, e, h2, h3, h4⟩ := waits_not hcl hun 4 j (hl j hjs)
              rw [hoj] at h1; cases h1
              rw [hall e h2 h3] at h4; cases h4
            · intro p o hp hpl e he hb
              have up : ∀ q, listed.getD q false = true → (listed.setIfInBounds j true).getD q false = true := fun q hq => by
                by_cases e : j = q
                · subst e
                  have hs : j < listed.size := by
                    rcases Nat.lt_or_ge j listed.size with h' | h'
                    · exact h'
                    · simp [Array.getElem?_eq_none h'] at hq
                  simp [hs]
                · rwa [getD_set_ne false e]
              by_cases e' : j = p
              · subst e'
                rw [hoj] at hp; cases hp
                exact up _ (hall e he hb)
              · rw [getD_set_ne false e'] at hpl
                exact up _ (hcl p o hp hpl e he hb)
      refine wpOp_mono (fun a' w' h3 => ?_) h2
      have hc' : stB ss (listed.setIfInBounds j true) = true ∨ S w' := by have := h3.2.1; rwa [hlist] at this
      have hS' : S0 w' := by
        rcases hst' with h | ⟨h, -⟩
        · exact h w'
        · rcases hmode with hm | ⟨hm, -⟩
          · exact hm w'
          · rcases hc' with h4 | h4
            · rw [h] at h4; cases h4
            · exact hm w' h4
      refine ⟨hc', ih (listed.setIfInBounds j true) a' w' hfree' (ready_mono hr (Ne.symm hji)) h3.1 hS' hc' hst' ?_⟩
      rw [Array.setIfInBounds_comm _ _ hji]
      exact h3.2.2

theorem at_drop {i : Nat} {o : Oper} {r : List Oper} (h : ops.toList.drop i = o :: r) : ops[i]? = some o := by
  have : (ops.toList.drop i)[0]? = some o := by rw [h]; rfl
  rw [List.getElem?_drop, Nat.add_zero] at this
  simpa using this

/-- What is read, taken first. -/
theorem takeL {i : Nat} {oi : Oper} {r : List Oper} {v : Value} {fuel : Nat} {listed : Array Bool} {a : Act} {w : World} (hi : ops.toList.drop i = oi :: r)
    (hs : Region.noSelect ops = true) (hf : Region.free md ops listed i = true) (hr : (Region.ready md ops listed).contains i = true) (hl : lateB md ops ss i = true) (hni : ss.contains i = false) (hst : stB ss listed = false) (hcl : closedB md ops listed = true)
    (hQ : ∀ c a w, Q (.panic c) (a.put oi.dst v) w → Q (.panic c) a w) (hS : S w) (hy : YieldsIf P ops S oi v a)
    (h : wpAnyG P md ops Q S ss fuel (listed.setIfInBounds i true) (a.put oi.dst v) w) : wpAnyG P md ops Q S ss (fuel + 1) listed a w :=
  wpAnyG_first (S0 := S) (at_drop hi) (Region.noSelect_spec hs) hQ hni (.inr ⟨fun _ h => h, hl⟩) fuel listed a w (Region.free_spec (at_drop hi) hf) (by simpa using hr) hy hS (.inr hS) (.inr ⟨hst, closed_of hcl⟩) h
/-- What yields in whatever world. -/
theorem takeW {i : Nat} {oi : Oper} {r : List Oper} {v : Value} {fuel : Nat} {listed : Array Bool} {a : Act} {w : World} (hi : ops.toList.drop i = oi :: r)
    (hs : Region.noSelect ops = true) (hf : Region.free md ops listed i = true) (hr : (Region.ready md ops listed).contains i = true) (hni : ss.contains i = false)
    (hQ : ∀ c a w, Q (.panic c) (a.put oi.dst v) w → Q (.panic c) a w) (hc : stB ss listed = true ∨ S w) (hy : YieldsIf P ops (fun _ => True) oi v a)
    (h : wpAnyG P md ops Q S ss fuel (listed.setIfInBounds i true) (a.put oi.dst v) w) : wpAnyG P md ops Q S ss (fuel + 1) listed a w :=
  wpAnyG_first (S0 := fun _ => True) (at_drop hi) (Region.noSelect_spec hs) hQ hni (.inl fun _ => trivial) fuel listed a w (Region.free_spec (at_drop hi) hf) (by simpa using hr) hy trivial hc (.inl fun _ => trivial) h

/-- Each of these may come up. -/
def RdyG (P : Program) (md : Region.Mode) (ops : Array Oper) (Q : Exit → Act → World → Prop) (S : World → Prop) (ss : List Nat) (fuel : Nat) (listed : Array Bool) (a : Act) (w : World) (rs : List Nat) : Prop :=
  ∀ i ∈ rs, wpOp P ops Q i (fun a' w' => (stB ss (listed.setIfInBounds i true) = true ∨ S w') ∧ wpAnyG P md ops Q S ss fuel (listed.setIfInBounds i true) a' w') a w
theorem readyG {rs : List Nat} {fuel : Nat} {listed : Array Bool} {a : Act} {w : World} (hr : Region.ready md ops listed = rs) (hne : rs ≠ []) (h : RdyG P md ops Q S ss fuel listed a w rs) : wpAnyG P md ops Q S ss (fuel + 1) listed a w :=
  ⟨fun h0 => absurd (hr ▸ h0) hne, hr ▸ h⟩
theorem doneG {listed : Array Bool} {a : Act} {w : World} (hr : Region.ready md ops listed = []) (h : Q .normal a w) : ∀ fuel, wpAnyG P md ops Q S ss fuel listed a w
  | 0 => ⟨hr, h⟩
  | _ + 1 => ⟨fun _ => h, by rw [hr]; simp⟩
theorem nilG {fuel : Nat} {listed : Array Bool} {a : Act} {w : World} : RdyG P md ops Q S ss fuel listed a w [] := fun _ h => by cases h
theorem consG {fuel : Nat} {listed : Array Bool} {a : Act} {w : World} {i : Nat} {o : Oper} {r : List Oper} {rs : List Nat} (ho : ops.toList.drop i = o :: r)
    (h : ∀ K' : Act → World → Prop, Hid (∀ a w, (stB ss (listed.setIfInBounds i true) = true ∨ S w) → wpAnyG P md ops Q S ss fuel (listed.setIfInBounds i true) a w → K' a w) → if Region.wanted o (yielded ops a.tmps) = true then Oper.wp P o a w K' Q else K' (a.put o.dst undef) w)
    (hs : RdyG P md ops Q S ss fuel listed a w rs) : RdyG P md ops Q S ss fuel listed a w (i :: rs) := fun j hj => by
  rcases List.mem_cons.1 hj with rfl | hj
  · exact wpOp_step (at_drop ho) (fun K' hK => h K' (hid (fun a w hS hW => hK a w ⟨hS, hW⟩)))
  · exact hs j hj
theorem regionG {id : Nat} {a : Act} {w : World} (S : World → Prop) (ss : List Nat) (hm : P.follows .mixedOrders = true) (h : wpAnyG P .any ops Q S ss ops.size (Array.replicate ops.size false) a w.drew) : (Code.region id ops true).wp P Q a w :=
  wp_region_any hm (wpAny_of_G _ _ _ _ h)
theorem regionG_round {l n id : Nat} {a : Act} {w : World} (S : World → Prop) (ss : List Nat) (hm : P.follows .mixedOrders = true) (ht : tameB ops = true) (hl : ¬ LetsOut Q) (h : wpAnyG P .any ops Q S ss ops.size (Array.replicate ops.size false) a w.drew) : (Code.region id ops true).wpIn (Fence.wide.inRound l) n P Q a w :=
  wpIn_region_any hm (anyIn_of ht hl _ _ _ _ (wpAny_of_G _ _ _ _ h))
end
end Go.Proofs.YtjfkgdfmkofbmaaGreatDoor

namespace Go.Proofs.YtjfkgdfmkofbmaaGreatDoor
set_option linter.unusedSimpArgs false
set_option linter.unusedVariables false
open Go.RowKit

/-- Each has a temporary of its own, none of these; it waits for earlier ones alone. -/
def dstsB (ops : Array Oper) (kp : List Nat) (n : Nat) : Bool :=
  (List.range ops.size).all fun j => match ops[j]? with
    | some o => (match o.dst with | some d => decide (d < n) && !kp.contains d && ((List.range ops.size).all fun k => k == j || match ops[k]? with | some p => p.dst != some d | none => true) | none => false) && o.after.all fun e => decide (e.on < j)
    | none => true
theorem dsts_at {ops : Array Oper} {kp : List Nat} {n : Nat} (h : dstsB ops kp n = true) {j : Nat} {o : Oper} (hj : ops[j]? = some o) :
    ∃ d, o.dst = some d ∧ d < n ∧ (∀ t ∈ kp, t ≠ d) ∧ (∀ k p, ops[k]? = some p → k ≠ j → p.dst ≠ some d) ∧ ∀ e ∈ o.after, e.on < j := by
  unfold dstsB at h
  rw [List.all_eq_true] at h
  have h1 := h j (List.mem_range.2 (Array.getElem?_eq_some_iff.1 hj).1)
  rw [hj] at h1
  dsimp only at h1
  rw [Bool.and_eq_true] at h1
  obtain ⟨h1, h2⟩ := h1
  cases hd : o.dst with
  | none => rw [hd] at h1; cases h1
  | some d =>
    rw [hd] at h1
    dsimp only at h1
    simp only [Bool.and_eq_true, decide_eq_true_eq, Bool.not_eq_true', List.all_eq_true, Bool.or_eq_true, beq_iff_eq] at h1
    obtain ⟨⟨a1, a2⟩, a3⟩ := h1
    refine ⟨d, rfl, a1, fun t ht e => ?_, fun k p hk hkj => ?_, fun e he => ?_⟩
    · subst e
      have := List.contains_iff_mem.2 ht
      rw [a2] at this
      cases this
    · rcases a3 k (List.mem_range.2 (Array.getElem?_eq_some_iff.1 hk).1) with e | e
      · exact absurd e hkj
      · rw [hk] at e
        simpa using e
    · rw [Array.all_eq_true_iff_forall_mem] at h2
      simpa using h2 e he

section
variable {P : Program} {ops : Array Oper} {Q : Exit → Act → World → Prop} {md : Region.Mode} {T : Nat → Value → World → Prop} {kp : List Nat} {n : Nat}

/-- What has come up gave what it gives. -/
structure SoFar (ops : Array Oper) (T : Nat → Value → World → Prop) (kp : List Nat) (n : Nat) (a0 : Act) (w0 : World) (listed : Array Bool) (a : Act) (w : World) : Prop where
  ls : listed.size = ops.size
  sz : a.tmps.size = n
  df : a.defers = a0.defers
  bel : Below w0.heap.size w0 w
  got : ∀ j o d, ops[j]? = some o → listed.getD j false = true → o.dst = some d → T j (a.eval (.tmp d)) w
  kept : ∀ t ∈ kp, a.eval (.tmp t) = a0.eval (.tmp t)

theorem eval_put_same {a : Act} {d : Nat} {v : Value} (h : d < a.tmps.size) : (a.put (some d) v).eval (.tmp d) = v := by simp [Act.put, Act.eval, h]
theorem eval_put_ne {a : Act} {d t : Nat} {v : Value} (h : t ≠ d) : (a.put (some d) v).eval (.tmp t) = a.eval (.tmp t) := by
  simp [Act.put, Act.eval, Array.getD_eq_getD_getElem?, Array.getElem?_setIfInBounds_ne (Ne.symm h)]

theorem SoFar.more {a0 a : Act} {w0 w w' : World} {listed : Array Bool} (h : SoFar ops T kp n a0 w0 listed a w) (hd : dstsB ops kp n = true) (hT : ∀ j v w w', T j v w → Below w.heap.size w w' → T j v w') {i : Nat} {o : Oper} (hi : ops[i]? = some o) {v : Value}
    (hb : Below w.heap.size w w') (hv : T i v w') : SoFar ops T kp n a0 w0 (listed.setIfInBounds i true) (a.put o.dst v) w' := by
  obtain ⟨d, e1, e2, e3, e4, -⟩ := dsts_at hd hi
  rw [e1]
  refine ⟨by simpa using h.ls, by simpa [Act.put] using h.sz, h.df, h.bel.trans (hb.mono h.bel.size), fun j p dj hj hl hdj => ?_, fun t ht => ?_⟩
  · by_cases e : j = i
    · subst e
      rw [hi] at hj; cases hj
      rw [e1] at hdj; cases hdj
      rw [eval_put_same (by rw [h.sz]; exact e2)]
      exact hv
    · have hne : dj ≠ d := fun e' => by subst e'; exact e4 j p hj e hdj
      rw [eval_put_ne hne]
      rw [getD_set_ne false (Ne.symm e)] at hl
      exact hT j _ w w' (h.got j p dj hj hl hdj) hb
  · rw [eval_put_ne (e3 t ht)]
    exact h.kept t ht

theorem count_set {listed : Array Bool} {i : Nat} (h : listed.getD i true = false) : (listed.setIfInBounds i true).toList.count false + 1 = listed.toList.count false := by
  have hs : i < listed.size := by
    rcases Nat.lt_or_ge i listed.size with h' | h'
    · exact h'
    · simp [Array.getElem?_eq_none h'] at h
  have hg : listed[i] = false := by simpa [Array.getD_eq_getD_getElem?, hs] using h
  have hp : 0 < listed.toList.count false := List.count_pos_iff.2 (by rw [← hg]; simp)
  rw [Array.toList_setIfInBounds, List.count_set (by simpa using hs), if_pos (by simpa using hg), if_neg (by decide)]
  omega

theorem anyI (a0 : Act) (w0 : World) (hd : dstsB ops kp n = true) (hT : ∀ j v w w', T j v w → Below w.heap.size w w' → T j v w')
    (step : ∀ (i : Nat) (o : Oper), ops[i]? = some o → ∀ (a : Act) (w : World), a.tmps.size = n → a.defers = a0.defers → Below w0.heap.size w0 w → (∀ e ∈ o.after, Region.binds md e = true → ∀ p d, ops[e.on]? = some p → p.dst = some d → T e.on (a.eval (.tmp d)) w) → (∀ t ∈ kp, a.eval (.tmp t) = a0.eval (.tmp t)) →
      ∀ K' : Act → World → Prop, (∀ v w', Below w.heap.size w w' → T i v w' → K' (a.put o.dst v) w') → if Region.wanted o (yielded ops a.tmps) = true then Oper.wp P o a w K' Q else K' (a.put o.dst undef) w)
    (fin : ∀ (a : Act) (w : World), a.tmps.size = n → a.defers = a0.defers → Below w0.heap.size w0 w → (∀ j o d, ops[j]? = some o → o.dst = some d → T j (a.eval (.tmp d)) w) → (∀ t ∈ kp, a.eval (.tmp t) = a0.eval (.tmp t)) → Q .normal a w) :
    ∀ (fuel : Nat) (listed : Array Bool) (a : Act) (w : World), listed.toList.count false = fuel → SoFar ops T kp n a0 w0 listed a w → wpAny P md ops Q fuel listed a w := by
  intro fuel
  induction fuel with
  | zero =>
    intro listed a w hc h
    have hall : ∀ j o, ops[j]? = some o → listed.getD j true = true ∧ listed.getD j false = true := fun j o hj => by
      have hs : j < listed.size := by rw [h.ls]; exact (Array.getElem?_eq_some_iff.1 hj).1
      have hn : listed[j] ≠ false := fun e => by
        have := List.count_eq_zero.1 hc
        exact this (by rw [← e]; simp)
      have : listed[j] = true := by simpa using hn
      simp [Array.getD_eq_getD_getElem?, hs, this]
    refine ⟨?_, fin a w h.sz h.df h.bel (fun j o d hj hdj => h.got j o d hj (hall j o hj).2 hdj) h.kept⟩
    rw [List.eq_nil_iff_forall_not_mem]
    intro j hj
    obtain ⟨h1, o, ho, -⟩ := mem_ready.1 hj
    rw [(hall j o ho).1] at h1
    cases h1
  | succ fuel ih =>
    intro listed a w hc h
    refine ⟨fun hr => ?_, fun i hi => ?_⟩
    · exfalso
      have hex : ∃ j, j < listed.size ∧ listed.getD j true = false := by
        have : false ∈ listed.toList := List.count_pos_iff.1 (by omega)
        obtain ⟨j, hj, e⟩ := List.getElem_of_mem this
        refine ⟨j, by simpa using hj, ?_⟩
        have hj' : j < listed.size := by simpa using hj
        have e' : listed[j] = false := by simpa using e
        simp [Array.getD_eq_getD_getElem?, hj', e']
      have key : ∀ m j, j < m → j < listed.size → listed.getD j true = false → False := by
        intro m
        induction m with
        | zero => intro j hj; omega
        | succ m ihm =>
          intro j hjm hjs hjf
          have hjo : j < ops.size := by rw [← h.ls]; exact hjs
          have hjr : j ∈ Region.ready md ops listed := by
            refine mem_ready.2 ⟨hjf, ops[j], by simp [hjo], fun e he hb => ?_⟩
            obtain ⟨d, -, -, -, -, e5⟩ := dsts_at hd (show ops[j]? = some ops[j] by simp [hjo])
            have hlt := e5 e he
            have hes : e.on < listed.size := by omega
            cases hv : listed[e.on] with
            | true => simp [Array.getD_eq_getD_getElem?, hes, hv]
            | false => exact (ihm e.on (by omega) hes (by simp [Array.getD_eq_getD_getElem?, hes, hv])).elim
          rw [hr] at hjr
          cases hjr
      obtain ⟨j, hj, hf⟩ := hex
      exact key (j + 1) j (by omega) hj hf
    · obtain ⟨hun, o, ho, hall⟩ := mem_ready.1 hi
      refine wpOp_step ho (fun K' hK => ?_)
      refine step i o ho a w h.sz h.df h.bel (fun e he hb p d hp hpd => h.got e.on p d hp (hall e he hb) hpd) h.kept K' (fun v w' hb hv => hK _ _ ?_)
      exact ih _ _ _ (by have := count_set hun; omega) (h.more hd hT ho hb hv)

theorem regionI {id : Nat} {a : Act} {w : World} (T : Nat → Value → World → Prop) (kp : List Nat) (n : Nat) (hm : P.follows .mixedOrders = true) (hn : a.tmps.size = n) (hd : dstsB ops kp n = true) (hT : ∀ j v w w', T j v w → Below w.heap.size w w' → T j v w')
    (step : ∀ (i : Nat) (o : Oper) (r : List Oper), ops.toList.drop i = o :: r → ∀ (b : Act) (W : World), b.tmps.size = n → b.defers = a.defers → Below w.heap.size w W → (∀ e ∈ o.after, Region.binds .any e = true → ∀ p d, ops[e.on]? = some p → p.dst = some d → T e.on (b.eval (.tmp d)) W) → (∀ t ∈ kp, b.eval (.tmp t) = a.eval (.tmp t)) →
      ∀ K' : Act → World → Prop, (∀ v w', Below W.heap.size W w' → T i v w' → K' (b.put o.dst v) w') → if Region.wanted o (yielded ops b.tmps) = true then Oper.wp P o b W K' Q else K' (b.put o.dst undef) W)
    (fin : ∀ (b : Act) (W : World), b.tmps.size = n → b.defers = a.defers → Below w.heap.size w W → (∀ j o d, ops[j]? = some o → o.dst = some d → T j (b.eval (.tmp d)) W) → (∀ t ∈ kp, b.eval (.tmp t) = a.eval (.tmp t)) → Q .normal b W) : (Code.region id ops true).wp P Q a w := by
  refine wp_region_any hm ?_
  have hbd : Below w.heap.size w w.drew := ⟨rfl, rfl, rfl, Nat.le_refl _, fun _ _ => rfl⟩
  refine anyI (T := T) (kp := kp) (n := n) a w.drew hd hT (fun i o ho b W h1 h2 h3 h4 h5 => ?_) (fun b W h1 h2 h3 h4 h5 => fin b W h1 h2 (hbd.trans h3) h4 h5) _ _ _ _ (by simp) ⟨by simp, hn, rfl, Below.refl _ _, fun j o d hj hl => ?_, fun _ _ => rfl⟩
  · refine step i o (ops.toList.drop (i + 1)) ?_ b W h1 h2 (hbd.trans h3) h4 h5
    obtain ⟨hs, e⟩ := Array.getElem?_eq_some_iff.1 ho
    rw [List.drop_eq_getElem_cons (by simpa using hs)]
    simp [e]
  · have hj' : j < ops.size := (Array.getElem?_eq_some_iff.1 hj).1
    simp [Array.getD_eq_getD_getElem?, hj'] at hl
end
end Go.Proofs.YtjfkgdfmkofbmaaGreatDoor
