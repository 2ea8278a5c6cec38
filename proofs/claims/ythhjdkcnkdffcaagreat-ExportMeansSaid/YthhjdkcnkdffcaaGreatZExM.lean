/- What chapter 11 answers of the laws' image: plain functions and laws. No program in sight. -/
import Derived.Test.YthhjdkcnkdffcaaGreatZLebM
import Derived.Test.YthhjdkcnkdffcaaGreatZFindP
import Derived.Test.YthhjdkcnkdffcaaGreatZQRefC
import Derived.Test.YthhjdkcnkdffcaaGreatZExB
import Derived.Test.YthhjdkcnkdffcaaGreatZAllE
namespace Go.Proofs.YthhjdkcnkdffcaaGreat
set_option linter.unusedSimpArgs false
set_option linter.unusedVariables false

/-- What is told, whether it may be or not; and an error. -/
def rawM (t T N : List UInt8) : List Exp × Nat :=
  if t ≠ [] then ((allS t).2, (allS t).1) else if T ≠ [] then (byNames ((tableM T N 1).1.map exS), (tableM T N 1).2) else ([], 0)
def allX (t T N : List UInt8) : List Exp × Nat := endA (rawM t T N)
/-- What a source finds. -/
def srcF (t T N name : List UInt8) : Exp × Bool × Nat :=
  if t ≠ [] then findT t name
  else if T ≠ [] then (if (Nl.findM (tableM T N 1) name).2.2 ≠ 0 ∨ (Nl.findM (tableM T N 1) name).2.1 = false then (Exp.zero, false, (Nl.findM (tableM T N 1) name).2.2) else (exS (Nl.findM (tableM T N 1) name).1, true, 0))
  else (Exp.zero, false, 0)
def findX (t T N name : List UInt8) : Exp × Bool × Nat := endF (srcF t T N name)
/-! ### names -/
theorem allM_names (names : List UInt8) (sections : Int) : ∀ (n : Nat) (t : List UInt8) (out : List Sym), (out.map Sym.name).Nodup → (∀ s ∈ out, s.name.length ≤ 255) →
    ((allM names sections n t out).1.map Sym.name).Nodup ∧ ∀ s ∈ (allM names sections n t out).1, s.name.length ≤ 255
  | 0, _, out, h, h2 => ⟨h, h2⟩
  | n + 1, t, out, h, h2 => by
    unfold allM
    cases hE : entryM (t.take 16) names sections with
    | none => exact allM_names names sections n _ out h h2
    | some r =>
      obtain ⟨e, s⟩ := r
      dsimp only
      by_cases he : e ≠ 0
      · rw [if_pos he]; exact ⟨List.nodup_nil, by simp⟩
      · rw [if_neg he]
        by_cases h1 : out.any (fun x => x.name == s.name) = true
        · rw [if_pos h1]; exact ⟨List.nodup_nil, by simp⟩
        · rw [if_neg h1]
          by_cases h3 : out.length = 4096
          · rw [if_pos h3]; exact ⟨List.nodup_nil, by simp⟩
          · rw [if_neg h3]
            refine allM_names names sections n _ _ ?_ ?_
            · rw [List.map_append, List.nodup_append]
              refine ⟨h, by simp, ?_⟩
              intro a ha b hb
              simp only [List.map_cons, List.map_nil, List.mem_singleton] at hb
              subst hb
              intro e
              obtain ⟨x, hx, rfl⟩ := List.mem_map.1 ha
              exact h1 (List.any_eq_true.2 ⟨x, hx, by rw [e]; simp⟩)
            · intro x hx
              rcases List.mem_append.1 hx with h4 | h4
              · exact h2 x h4
              · simp only [List.mem_singleton] at h4
                subst h4
                have he' : e = 0 := by omega
                unfold entryM at hE
                dsimp only at hE
                split at hE
                · cases hE
                · split at hE
                  · cases hE; rename_i h5; omega
                  · split at hE
                    · cases hE; rename_i h5; omega
                    · cases hE
                      exact (Nl.textM_er names _).2

theorem tab_names (T N : List UInt8) (sections : Int) : ((tableM T N sections).1.map Sym.name).Nodup ∧ ∀ s ∈ (tableM T N sections).1, s.name.length ≤ 255 := by
  unfold tableM
  split
  · exact ⟨List.nodup_nil, by simp⟩
  · exact allM_names _ _ _ _ _ List.nodup_nil (by simp)

theorem exS_apart {l : List Sym} (h : (l.map Sym.name).Nodup) : NamesApart (l.map exS) := by
  unfold NamesApart
  rw [List.pairwise_map]
  have h2 : l.Pairwise (fun a b => a.name ≠ b.name) := List.pairwise_map.1 h
  exact h2.imp fun {a b} hne => by rw [exS_name, exS_name]; exact hne

theorem sayL_nil (name : List UInt8) : sayL [] name = (Exp.zero, false, 0) := rfl

theorem find_idx {l : List Sym} {name : List UInt8} : l[Nl.posM l name]? = l.find? (fun s => s.name == name) := by
  unfold Nl.posM
  induction l with
  | nil => rfl
  | cons s r ih =>
    rw [List.findIdx_cons, List.find?_cons]
    cases h : s.name == name
    · simp only [cond_false, List.getElem?_cons_succ]
      exact ih
    · simp

theorem findM_is {r : List Sym × Nat} {name : List UInt8} (h : r.2 = 0) : Nl.findM r name = match r.1.find? (fun s => s.name == name) with | none => (Sym.zero, false, 0) | some s => (s, true, 0) := by
  unfold Nl.findM
  rw [if_neg (by simp [h]), find_idx]
  cases r.1.find? (fun s => s.name == name) <;> rfl

theorem srcF_say {t T N name : List UInt8} (h : (rawM t T N).2 = 0) (hn : name.length ≤ 255) : ∃ L : List Exp, NamesApart L ∧ L.Perm (rawM t T N).1 ∧ srcF t T N name = sayL L name := by
  unfold rawM at h ⊢
  unfold srcF
  by_cases ht : t ≠ []
  · rw [if_pos ht] at h ⊢
    rw [if_pos ht]
    exact ⟨(allT t).2, allT_apart t, (byNames_perm (allT t).2).symm, findT_all h hn⟩
  · rw [if_neg ht] at h ⊢
    rw [if_neg ht]
    by_cases hT : T ≠ []
    · rw [if_pos hT] at h ⊢
      rw [if_pos hT]
      refine ⟨(tableM T N 1).1.map exS, exS_apart (tab_names T N 1).1, (byNames_perm _).symm, ?_⟩
      have h' : (tableM T N 1).2 = 0 := h
      rw [findM_is h']
      unfold sayL
      rw [List.find?_map]
      have e : (fun x => x.name == name) ∘ exS = (fun s : Sym => s.name == name) := by funext s; simp [exS_name]
      rw [e]
      cases hf : (tableM T N 1).1.find? (fun s => s.name == name) with
      | none => simp
      | some s => simp
    · rw [if_neg hT] at h ⊢
      rw [if_neg hT]
      exact ⟨[], List.Pairwise.nil, List.Perm.refl _, rfl⟩

theorem raw_short {t T N : List UInt8} {x : Exp} (hx : x ∈ (rawM t T N).1) : x.name.length ≤ 255 := by
  unfold rawM at hx
  split at hx
  · exact finds_short hx
  · split at hx
    · have h := (byNames_perm _).mem_iff.1 hx
      obtain ⟨s, hs, rfl⟩ := List.mem_map.1 h
      rw [exS_name]
      exact (tab_names T N 1).2 s hs
    · cases hx

theorem raw_few (t T N : List UInt8) : (rawM t T N).1.length ≤ 4096 := by
  unfold rawM
  split
  · exact finds_few t
  · split
    · show (byNames _).length ≤ 4096
      rw [(byNames_perm _).length_eq, List.length_map]
      exact (Nl.tableM_ok T N 1).2
    · simp

theorem raw_none {t T N : List UInt8} (h : (rawM t T N).2 ≠ 0) : (rawM t T N).1 = [] := by
  unfold rawM at h ⊢
  by_cases ht : t ≠ []
  · rw [if_pos ht] at h ⊢
    exact finds_none h
  · rw [if_neg ht] at h ⊢
    by_cases hT : T ≠ []
    · rw [if_pos hT] at h ⊢
      show byNames _ = []
      rw [(Nl.tableM_ok T N 1).1 h]
      exact byNames_nil
    · rw [if_neg hT] at h
      exact absurd rfl h

theorem allX_ok {t T N : List UInt8} {L : List Exp} (h : allX t T N = (L, 0)) : (rawM t T N).2 = 0 ∧ (rawM t T N).1 = L ∧ ∀ x ∈ L, mayX x = 0 := by
  unfold allX endA at h
  split at h
  · rename_i h1
    have := congrArg Prod.snd h
    exact absurd this h1
  · rename_i h1
    split at h
    · rename_i h2
      have := congrArg Prod.snd h
      exact absurd this h2
    · rename_i h2
      have e : (rawM t T N).1 = L := congrArg Prod.fst h
      refine ⟨by simpa using h1, e, ?_⟩
      rw [← e]
      exact (goM_zero _).1 (by simpa using h2)

theorem allX_bad {t T N : List UInt8} {L : List Exp} {e : Nat} (h : allX t T N = (L, e)) (he : e ≠ 0) : L = [] := by
  unfold allX endA at h
  split at h
  · exact (congrArg Prod.fst h).symm
  · split at h
    · exact (congrArg Prod.fst h).symm
    · exact absurd (congrArg Prod.snd h).symm he

/-- Each that is told is found. -/
theorem findX_at {t T N : List UInt8} {L : List Exp} (h : allX t T N = (L, 0)) {x : Exp} (hx : x ∈ L) : findX t T N x.name = (x, true, 0) := by
  obtain ⟨h1, rfl, h3⟩ := allX_ok h
  obtain ⟨M, hM, hp, hs⟩ := srcF_say h1 (raw_short hx)
  unfold findX
  rw [hs, sayL_of hM (hp.mem_iff.2 hx)]
  unfold endF
  rw [if_neg (by simp), if_neg (by simp), if_neg (by simpa using h3 x hx)]

/-- And no other one. -/
theorem findX_is {t T N name : List UInt8} {L : List Exp} (h : allX t T N = (L, 0)) (hn : name.length ≤ 255) : (findX t T N name).2 = (L.any (fun x => x.name == name), 0) := by
  obtain ⟨h1, rfl, h3⟩ := allX_ok h
  obtain ⟨M, hM, hp, hs⟩ := srcF_say h1 hn
  have hi := sayL_is M name
  rw [any_perm hp] at hi
  unfold findX
  rw [hs]
  unfold endF
  rw [hi]
  cases hb : (rawM t T N).1.any (fun x => x.name == name) with
  | false => rw [if_neg (by simp), if_pos rfl]
  | true =>
    have hin : (sayL M name).1 ∈ M := by
      unfold sayL at hi ⊢
      cases hf : M.find? (fun x => x.name == name) with
      | none => rw [hf] at hi; rw [hb] at hi; cases hi
      | some y => exact List.mem_of_find?_eq_some hf
    rw [if_neg (by simp), if_neg (by simp), if_neg (by simpa using h3 _ (hp.mem_iff.1 hin))]

/-- The error of one that is told, but may not be. -/
theorem findX_of {t T N : List UInt8} (h : (rawM t T N).2 = 0) {x : Exp} (hx : x ∈ (rawM t T N).1) : findX t T N x.name = if mayX x ≠ 0 then (Exp.zero, false, mayX x) else (x, true, 0) := by
  obtain ⟨M, hM, hp, hs⟩ := srcF_say h (raw_short hx)
  unfold findX
  rw [hs, sayL_of hM (hp.mem_iff.2 hx)]
  unfold endF
  rw [if_neg (by simp), if_neg (by simp)]

theorem allX_one {t T N : List UInt8} {x : Exp} (h : rawM t T N = ([x], 0)) : allX t T N = if mayX x ≠ 0 then ([], mayX x) else ([x], 0) := by
  unfold allX endA
  rw [h]
  simp only [goM]
  by_cases hm : mayX x = 0 <;> simp [hm]
end Go.Proofs.YthhjdkcnkdffcaaGreat

namespace Go.Proofs.YthhjdkcnkdffcaaGreat
set_option linter.unusedSimpArgs false
set_option linter.unusedVariables false
open Go.RowKit Go.Sort Go.Lib

set_option maxHeartbeats 1000000 in
theorem tb_name (x y : Exp) (W : World) : Calls Tryz.prog 170 #[.agg x.cells.toArray, .agg y.cells.toArray] W fun e w' => e = .returned (.int .i64 (cmpE x y)) ∧ ∃ q os', w' = grow (W.drewN q) os' := by
  have hcon := fun W' => cmp_string x.name y.name W'
  unfold cmpE
  generalize cmpS x.name y.name = r at hcon ⊢
  unfold Exp.cells
  go_enter Tryz.func170, Tryz.ntmps170
  go_wp2_with (go_at_call 130; refine (hcon _).mono ?_; rintro e w' ⟨rfl, rfl⟩)
  go_ret
  exact ⟨rfl, 0, _, by rw [alloc_eq_grow, alloc_eq_grow, grow_grow]; rfl⟩

theorem cmpLaysT (blk off size : Nat) (w : World) : CmpLays Tryz.prog 170 #[] Exp.cells 7 cmpE blk off size w := fun _ _ _ _ x y => tb_name x y _

theorem egT : ∀ (args : Array Value) (w : World), (callFunc 170 args).run Tryz.prog w = .ok (.enter 170 args) w := enters_of Tryz.func170 (by kernel_rfl) rfl

/-- The exports are sorted. -/
theorem sort_table (W : World) (base : Nat) (v : Value) (out : List Exp) (h : W.ownsRow base 25 7 v out.length (expCells out)) (hl : out.length ≤ 140737488355328) (hap : NamesApart out) :
    Calls Tryz.prog 111 #[v, .func (.func 170) #[] #[]] W fun e w' => e = .returned (.tuple #[]) ∧ ES w' v (byNames out) ∧ W.grownBy w' v.ownBlock := by
  have h0 := h
  rcases Nat.eq_zero_or_pos out.length with hz | hpos
  · obtain rfl : out = [] := List.eq_nil_of_length_eq_zero hz
    obtain ⟨p, cap, rfl⟩ := ownsRow_form h
    have hS := AnyF.slices_SortFunc_none (P := Tryz.prog) (ρ := Tryz.sortF_ren) { Tryz.sortF with } p cap (.func (.func 170) #[] #[]) W
    change Calls Tryz.prog 111 _ _ _ at hS
    refine hS.mono ?_
    rintro e w' ⟨rfl, rfl⟩
    refine ⟨rfl, ?_, grownBy_refl _ _⟩
    rw [show byNames [] = [] from by simp [byNames]]
    rcases h.2 with ⟨he, _⟩ | ⟨g, cap', cur, he, hb, hg, hnc, hcm, hcs, htake⟩
    · rw [he]; exact ES.nil _
    · obtain ⟨-, -, h3⟩ := Value.slice.inj he
      exact ⟨p, cap, rfl, Nat.zero_le _, ⟨by rw [h3]; exact hcm, Nat.zero_le _⟩, fun hne => absurd rfl hne⟩
  · rcases h.2 with ⟨_, hz⟩ | ⟨g, cap, cur, rfl, hb, hg, hnc, hcm, hcs, htake⟩
    · omega
    · have hH := holds_owns h0 hpos
      have hlt := (World.ownsRow.lt h0 g rfl).2
      have hS := AnyQ.slices_SortFunc Tryz.sortF 7 agg_exp size_exp Exp.cells (fun _ => rfl) (fun x v hv => by simp [Exp.cells] at hv; rcases hv with rfl | rfl | rfl | rfl | rfl | rfl | rfl <;> rfl) cmpE swoE 170 #[] g 0 cap out.toArray W egT (cmpLaysT g 0 _ W) hH hlt (by simp; omega)
      rw [show out.toArray.size = out.length from by simp] at hS
      change Calls Tryz.prog 111 _ _ _ at hS
      refine hS.mono ?_
      rintro e w' ⟨rfl, d', n, os, hp, hs, rfl⟩
      refine ⟨rfl, ?_, grownBy_sortK d'⟩
      have hd : d'.toList = byNames out := by
        have := sorted_is (d := out.toArray) (d' := d') (by simpa using hap) (by simpa using hp) (by simpa using hs)
        simpa using this
      have hsz : d'.size = out.length := by have := hp.1; simpa using this
      have hH2 := holdsK_sortWorldK Exp.cells 7 W g 0 n out.toArray d' os hlt hH (by simp [hsz])
      have hbl : (byNames out).length = out.length := by rw [← hd]; simpa using hsz
      refine ⟨some ⟨g, 0, none⟩, cap, by rw [hbl], by omega, ⟨hcm, by omega⟩, fun _ => ⟨g, 0, rfl, fun i x hx c u hu => ?_⟩⟩
      have hi : i < d'.size := by rw [hsz, ← hbl]; exact (List.getElem?_eq_some_iff.1 hx).1
      have hc : c < 7 := by have := (List.getElem?_eq_some_iff.1 hu).1; have h7 : x.cells.length = 7 := rfl; omega
      have hcell := (hH2.cell hi hc).1
      rw [hcell]
      have hxe : d'[i]! = x := by
        rw [getElem!_pos d' i hi]
        rw [← hd] at hx
        have := (List.getElem?_eq_some_iff.1 hx).2
        simpa using this
      rw [hxe, getElem!_pos x.cells c (by show c < 7; exact hc)]
      exact congrArg some (List.getElem?_eq_some_iff.1 hu).2

/-- What a source's 'all' answers. -/
def AllEnd (w : World) (r : List Exp × Nat) (e : Ending) (w' : World) : Prop :=
  ∃ v, e = .returned (.tuple #[v, .int .i64 (r.2 : Int)]) ∧ ES w' v r.1 ∧ Below w.heap.size w w'

set_option maxHeartbeats 1000000 in
theorem ex_leaves_all (w : World) (p : Option Addr) (n c : Nat) (r : List Exp × Nat)
    (HL : ∀ w0 : World, Below w.heap.size w w0 → Calls Tryz.prog 104 #[.slice p n c] w0 (AllEnd w0 r)) :
    Calls Tryz.prog 102 #[.agg #[.slice p n c]] w (AllEnd w r) := by
  have H := hid HL
  clear HL
  go_enter Tryz.func102, Tryz.ntmps102
  go_wp2_with fail
  refine (H.out _ ((Below.refl _ _).alloc (Nat.le_refl _) _)).mono ?_
  rintro e w1 ⟨v, rfl, hv, hb⟩
  have HB := hid (And.intro hv (((Below.refl w.heap.size w).alloc (Nat.le_refl _) _).trans (hb.mono (by simp))))
  clear hv hb
  go_wp2_with fail
  go_ret2
  exact ⟨v, rfl, HB.out.1, HB.out.2⟩

theorem expCells_len (l : List Exp) : (expCells l).length = l.length * 7 := by
  induction l with
  | nil => rfl
  | cons x l ih => simp only [expCells, List.flatMap_cons, List.length_append, List.length_cons] at ih ⊢; rw [ih]; show 7 + _ = _; omega

/-- What stands in a round. -/
def TabR (w1 : World) (l : List Sym) (v6 v24 : Value) (wr : World) : Prop :=
  ∃ k : Nat, k ≤ l.length ∧ v24 = .int .i64 (k : Int) ∧ wr.ownsRow w1.heap.size 25 7 v6 k (expCells ((l.take k).map exS)) ∧ Below w1.heap.size w1 wr

set_option maxHeartbeats 2000000 in
set_option maxRecDepth 4000 in
theorem ex_table_all (w : World) (p q : Option Addr) (n c m d : Nat) (T N : List UInt8)
    (HL : ∀ w0 : World, Below w.heap.size w w0 → Calls Tryz.prog 168 #[.slice p n c, .slice q m d, .int .i64 1] w0 (Nl.AllPost w0 (tableM T N 1))) :
    Calls Tryz.prog 166 #[.agg #[.int .u64 4096, .int .i64 1, .slice p n c, .slice q m d]] w (AllEnd w (byNames ((tableM T N 1).1.map exS), (tableM T N 1).2)) := by
  obtain ⟨M, hM⟩ : ∃ M, M = tableM T N 1 := ⟨_, rfl⟩
  have hok := Nl.tableM_ok T N 1
  have hnm := (tab_names T N 1).1
  rw [← hM] at HL hok hnm ⊢
  obtain ⟨l, er⟩ := M
  dsimp only at HL hok hnm ⊢
  have hbox := heap_alloc_new w (.cells #[.int .u64 4096, .int .i64 1, .slice p n c, .slice q m d] 100)
  have hb0 : Below w.heap.size w (w.alloc (.cells #[.int .u64 4096, .int .i64 1, .slice p n c, .slice q m d] 100)) := (Below.refl _ _).alloc (Nat.le_refl _) _
  obtain ⟨i0, hi, hz0, hz1, hz2⟩ := info_parts Tryz.infoExport
  have HI := hid (And.intro hi (And.intro hz0 (And.intro hz1 hz2)))
  have H := hid (And.intro HL (And.intro hok (And.intro hnm (And.intro hbox hb0))))
  have HC := hid (fun (w0 : World) (s : Sym) => ex_export w0 s p q n c m d)
  have hll : l.length ≤ 4096 := hok.2
  clear HL hok hnm hbox hb0 hM hi hz0 hz1 hz2
  go_enter Tryz.func166, Tryz.ntmps166
  go_wp2_with fail
  refine (H.out.1 _ H.out.2.2.2.2).mono ?_
  rintro e w1 ⟨v, rfl, hown, hb⟩
  dsimp only at hown hb ⊢
  have hss := Nl.SS.of_owns hown (by omega)
  have hbx := (hb.block w.heap.size (by simp)).trans H.out.2.2.2.1
  have hbw := H.out.2.2.2.2.trans (hb.mono H.out.2.2.2.2.size)
  obtain ⟨va, vc, rfl⟩ := hss.form
  have hlt0 : w.heap.size < w1.heap.size := (Array.getElem?_eq_some_iff.1 hbx).1
  have H1 := hid (And.intro hss (And.intro hbx hbw))
  clear hown hb hss hbx hbw
  by_cases he : er = 0
  · subst he
    rw [show ((0 : Nat) : Int) = (0 : Int) from rfl]
    go_wp2_with fail
    go_loopw [6, 24] (fun v6 v24 wr => TabR w1 l v6 v24 wr) (fun _ i _ => l.length - (intOf i).toNat)
    case atStart => exact ⟨0, Nat.zero_le _, rfl, World.ownsRow_nil _ _ _ _, Below.refl _ _⟩
    case round =>
      obtain ⟨k, hk, rfl, hown, hbr⟩ := hrel
      have hzr := hbr.size
      obtain ⟨oa, oc, rfl⟩ := ownsRow_form hown
      by_cases hlt : k < l.length
      · obtain ⟨g, off, rfl, hcs⟩ := (H1.out.1.below hbr).at (by omega)
        obtain ⟨⟨sn, ss, sv, sw⟩, hs⟩ : ∃ s, l[k]? = some s := ⟨_, List.getElem?_eq_getElem hlt⟩
        obtain ⟨x0, x1, x2, x3⟩ := hcs k _ hs
        have hbx := (hbr.block w.heap.size hlt0).trans H1.out.2.1
        have a0 := cell_of_row _ _ 0 _ _ _ hbx
        have a1 := cell_of_row _ _ 1 _ _ _ hbx
        have a2 := cell_of_row _ _ 2 _ _ _ hbx
        have a3 := cell_of_row _ _ 3 _ _ _ hbx
        have hltr : w.heap.size < wr.heap.size := by omega
        obtain ⟨X, hX⟩ : ∃ X, X = exS ⟨sn, ss, sv, sw⟩ := ⟨_, rfl⟩
        have hC := HC.out (wr.alloc (.cells #[.string (mkS sn), .int .i64 ss, .int .u64 (sv : Int), .bool sw] 62)) ⟨sn, ss, sv, sw⟩
        rw [← hX] at hC
        have hbn : Below wr.heap.size wr (wr.alloc (.cells #[.string (mkS sn), .int .i64 ss, .int .u64 (sv : Int), .bool sw] 62)) := (Below.refl _ _).alloc (Nat.le_refl _) _
        have HR := hid (And.intro hown (And.intro hbr (And.intro hs (And.intro hX hbn))))
        have HCr := hid hC
        clear hown hbr hcs hs hbx hX hbn hC
        unfold Sym.cells at HCr
        dsimp only at HCr
        go_wp2_with fail
        refine HCr.out.mono ?_
        rintro e w2 ⟨rfl, hb⟩
        obtain ⟨xn, xk, xw, xv, xr, xo, xt⟩ := X
        have hb2 : Below wr.heap.size wr w2 := HR.out.2.2.2.2.trans (hb.mono HR.out.2.2.2.2.size)
        have hz2 := hb2.size
        have H2 := hid hb2
        clear hb hb2 a0 a1 a2 a3
        simp only [Exp.cells]
        go_wp2_with (at_builtin; refine wpList_append_grew _ rfl _ _ _ _ rfl w1.heap.size 25 i0 _ 7 72 Tryz.underlying30 HI.out.1 HI.out.2.1 HI.out.2.2.1 HI.out.2.2.2 rfl _ k (expCells ((l.take k).map exS)) rfl (ownsRow_below (ownsRow_below HR.out.1 H2.out) ((Below.refl _ _).alloc (Nat.le_refl _) _)) _ 1 [.string (mkS xn), .int .i64 xk, .bool xw, .int .u64 (xv : Int), .int .u64 (xr : Int), .int .u64 (xo : Int), .string (mkS xt)] rfl (Src.laid _ Tryz.underlying30 [.string (mkS xn), .int .i64 xk, .bool xw, .int .u64 (xv : Int), .int .u64 (xr : Int), .int .u64 (xo : Int), .string (mkS xt)] 1 rfl (by simp [Value.oneCell']) (0, 0) (by simp)) ?c3 ?c4 ?c5 ?_)
        case c3 => exact Nat.le_trans (show k + 1 ≤ 5000 by omega) (by decide)
        case c4 => omega
        case c5 => simp; omega
        intro v1 W5 hl1 hg1
        have hg1 : Grew w2 W5 _ v1 := Grew.under ((Below.refl _ _).alloc (Nat.le_refl _) _) hg1
        have HE := hid (And.intro hl1 hg1)
        clear hl1 hg1 x0 x1 x2 x3
        go_wp2_with fail
        go_roundw
        case rel =>
          refine ⟨k + 1, by omega, by go_num, ?_, ?_⟩
          · have h5 := HE.out.1
            rw [take_snoc HR.out.2.2.1, List.map_append, List.map_singleton, ← HR.out.2.2.2.1, expCells_snoc, List.map_take]
            exact h5
          · exact (HR.out.2.1.trans (H2.out.mono HR.out.2.1.size)).trans (HE.out.2.below (by omega) (fun j e => ((HR.out.1).lt j e).1))
        case measure => simp [intOf]; omega
      · obtain rfl : k = l.length := by omega
        rw [List.take_length] at hown
        have HR := hid (And.intro hown hbr)
        clear hown hbr
        have hsort := sort_table wr w1.heap.size (.slice oa l.length oc) (l.map exS) (by rw [List.length_map]; exact HR.out.1) (by rw [List.length_map]; omega) (exS_apart H.out.2.2.1)
        have HS := hid hsort
        clear hsort
        go_wp2_with fail
        refine HS.out.mono ?_
        rintro e w3 ⟨rfl, hes, hg⟩
        have hb3 : Below w1.heap.size w1 w3 := HR.out.2.grown hg HR.out.2.size (fun k e => (HR.out.1.lt k e).1)
        have HE := hid (And.intro hes (H1.out.2.2.trans (hb3.mono H1.out.2.2.size)))
        clear hes hg hb3
        go_wp2_with fail
        go_ret2
        exact ⟨_, rfl, HE.out.1, HE.out.2⟩
  · have de : ((er : Int) != 0) = true := by rw [bne_iff_ne]; omega
    have hl0 : l = [] := H.out.2.1.1 he
    have He := hid (And.intro he hl0)
    clear he hl0
    go_wp2_with fail
    go_ret2
    refine ⟨_, rfl, ?_, H1.out.2.2⟩
    rw [He.out.2]
    show ES _ _ (byNames [])
    rw [byNames_nil]
    exact ES.nil _
end Go.Proofs.YthhjdkcnkdffcaaGreat

namespace Go.Proofs.YthhjdkcnkdffcaaGreat
set_option linter.unusedSimpArgs false
set_option linter.unusedVariables false
open Go.RowKit
attribute [local go_sem ↓] old_img
attribute [local go_sem] big_img rowA_older

theorem ex_no_all' (w : World) : Calls Tryz.prog 177 #[.agg #[]] w (AllEnd w ([], 0)) := by
  refine (ex_no_all w).mono ?_
  rintro e w' ⟨rfl, hb⟩
  exact ⟨_, rfl, ES.nil _, hb⟩

set_option maxHeartbeats 2000000 in
set_option maxRecDepth 4000 in
theorem ex_all_gen (w : World) (p : Option Addr) (n cap : Nat) (I : Array Value) (t T N : List UInt8) (hs : BS w (.slice p n cap) (zeroP ++ t ++ T ++ N)) (h : PlainI w I t.length T.length N.length) (hn : n ≤ 9000000) (r : List Exp × Nat)
    (HL : t ≠ [] → ∀ (w0 : World) p n c, BS w0 (.slice p n c) t → Calls Tryz.prog 102 #[.agg #[.slice p n c]] w0 (AllEnd w0 r))
    (HT : t = [] → T ≠ [] → ∀ (w0 : World) p n c q m d, BS w0 (.slice p n c) T → BS w0 (.slice q m d) N → Calls Tryz.prog 166 #[.agg #[.int .u64 4096, .int .i64 1, .slice p n c, .slice q m d]] w0 (AllEnd w0 r))
    (H0 : t = [] → T = [] → r = ([], 0)) :
    Calls Tryz.prog 10 #[.slice p n cap, .agg I] w (AllEnd w (endA r)) := by
  obtain ⟨L, er⟩ := r
  obtain ⟨R, hR⟩ : ∃ R : List Exp × Nat, R = endA (L, er) := ⟨_, rfl⟩
  rw [← hR]
  have HR := hid hR
  clear hR
  have hb1 : Below w.heap.size w (w.alloc (.cells I 38)) := (Below.refl _ _).alloc (Nat.le_refl _) _
  have hA := heap_alloc_new w (.cells I 38)
  have rA := rowA_block hA h.ok.1
  have hcall := ex_of _ p n cap I t T N (hs.below hb1) (h.below hb1) hn
  have H := hid (And.intro hb1 (And.intro hA (And.intro h hcall)))
  have HX := hid (And.intro HL (And.intro HT H0))
  clear HL HT H0 hb1 hA hs h hcall
  go_enter Tryz.func10, Tryz.ntmps10
  go_upto_region 1 with fail
  go_cut [6, 7] (fun t6 t7 wx => t7 = .int .i64 (er : Int) ∧ ES wx t6 L ∧ OfIn w wx I t.length T.length N.length)
  case first =>
    go_wp2_with fail
    refine (H.out.2.2.2).mono ?_
    rintro e w1 ⟨⟨v, rfl, hv⟩, hb⟩
    have hof : OfIn w w1 I t.length T.length N.length := (OfIn.start H.out.2.2.1).next hb
    have H1 := hid hof
    have Hv := hid hv
    clear hb hof hv rA
    rcases Hv.out with ⟨h1, p1, n1, c1, rfl, h2⟩ | ⟨h1, h2, p1, n1, c1, q1, m1, d1, rfl, h3, h4⟩ | ⟨h1, h2, rfl⟩
    · have hc := HX.out.1 h1 w1 p1 n1 c1 h2
      have Hc := hid hc
      clear hc h1 h2 Hv
      go_wp2_with fail
      refine Hc.out.mono ?_
      rintro e w2 ⟨v, rfl, hv, hb⟩
      have Hs := hid (And.intro hv (H1.out.next hb))
      clear hb hv
      go_wp2_with fail
      go_meet
      exact ⟨rfl, Hs.out.1, Hs.out.2⟩
    · have hc := HX.out.2.1 h1 h2 w1 p1 n1 c1 q1 m1 d1 h3 h4
      have Hc := hid hc
      clear hc h1 h2 h3 h4 Hv
      go_wp2_with fail
      refine Hc.out.mono ?_
      rintro e w2 ⟨v, rfl, hv, hb⟩
      have Hs := hid (And.intro hv (H1.out.next hb))
      clear hb hv
      go_wp2_with fail
      go_meet
      exact ⟨rfl, Hs.out.1, Hs.out.2⟩
    · have hc := ex_no_all' w1
      have hr0 := HX.out.2.2 h1 h2
      have Hc := hid (And.intro hc hr0)
      clear hc h1 h2 Hv hr0
      go_wp2_with fail
      refine Hc.out.1.mono ?_
      rintro e w2 ⟨v, rfl, hv, hb⟩
      have Hs := hid (And.intro hv (H1.out.next hb))
      clear hb hv
      go_wp2_with fail
      go_meet
      have e3 := Hc.out.2
      cases e3
      exact ⟨rfl, Hs.out.1, Hs.out.2⟩
  case rest =>
    obtain ⟨rfl, hv, hof⟩ := hcut
    clear HX H rA
    obtain ⟨pa, ca, rfl⟩ := hv.form
    have hll := hv.len
    have HS := hid (And.intro hv hof)
    clear hv hof
    by_cases he : er = 0
    · subst he
      rw [show ((0 : Nat) : Int) = (0 : Int) from rfl]
      go_wp2_with fail
      go_loopw [23] (fun i wr => ∃ k : Nat, k ≤ L.length ∧ i = .int .i64 (k : Int) ∧ (∀ y ∈ L.take k, mayX y = 0) ∧ Below wc.heap.size wc wr) (fun i _ => L.length - (intOf i).toNat)
      case atStart => exact ⟨0, Nat.zero_le _, rfl, by simp, Below.refl _ _⟩
      case round =>
        obtain ⟨k, hk, rfl, hok, hbr⟩ := hrel
        by_cases hlt : k < L.length
        · obtain ⟨x, hx⟩ : ∃ x, L[k]? = some x := ⟨_, List.getElem?_eq_getElem hlt⟩
          obtain ⟨g, off, rfl, x0, x1, x2, x3, x4, x5, x6⟩ := (HS.out.1.below hbr).at hx
          have hofr := HS.out.2.next hbr
          have hbn : Below wr.heap.size wr (wr.alloc (.cells x.cells.toArray 25)) := (Below.refl _ _).alloc (Nat.le_refl _) _
          have hofn := hofr.next hbn
          have hrow := hofr.row
          have hlI := (Array.getElem?_eq_some_iff.1 hofr.img).1
          have hcall := ex_may _ I _ _ _ x hofn.plain
          have HR1 := hid (And.intro hok (And.intro hx (And.intro hofn (hbr.trans (hbn.mono hbr.size)))))
          have HC := hid hcall
          clear hok hbr hx hofr hbn hofn hcall
          obtain ⟨xn, xk, xw, xv, xr, xo, xt⟩ := x
          dsimp only at x0 x1 x2 x3 x4 x5 x6
          unfold Exp.cells at HC
          dsimp only at HC
          obtain ⟨M, hM⟩ : ∃ M, M = mayX ⟨xn, xk, xw, xv, xr, xo, xt⟩ := ⟨_, rfl⟩
          rw [← hM] at HC
          have HM := hid hM
          clear hM
          go_wp2_with fail
          refine HC.out.mono ?_
          rintro e w3 ⟨rfl, hb3⟩
          have H3 := hid (HR1.out.2.2.2.trans (hb3.mono HR1.out.2.2.2.size))
          clear hb3 x0 x1 x2 x3 x4 x5 x6 hrow
          by_cases hm : M = 0
          · subst hm
            go_wp2_with fail
            refine ⟨⟨k + 1, by omega, by go_num, fun y hy => ?_, H3.out⟩, by simp [intOf]; omega⟩
            rw [take_snoc HR1.out.2.1] at hy
            rcases List.mem_append.1 hy with h5 | h5
            · exact HR1.out.1 y h5
            · simp only [List.mem_singleton] at h5
              subst h5
              exact HM.out.symm
          · have dm : ((M : Int) != 0) = true := by rw [bne_iff_ne]; omega
            have Hm := hid hm
            clear hm
            go_wp2_with fail
            go_ret2
            have e4 : R = ([], M) := by
              rw [HR.out]
              unfold endA
              rw [if_neg (by simp), goM_take HR1.out.1 HR1.out.2.1 (by rw [← HM.out]; exact Hm.out), if_pos (by rw [← HM.out]; exact Hm.out), ← HM.out]
            rw [e4]
            exact ⟨_, rfl, ES.nil _, HS.out.2.below.trans (H3.out.mono HS.out.2.below.size)⟩
        · obtain rfl : k = L.length := by omega
          rw [List.take_length] at hok
          have HR1 := hid (And.intro hok hbr)
          clear hok hbr
          go_wp2_with fail
          go_ret2
          have hg := (goM_zero L).2 HR1.out.1
          have e4 : R = (L, 0) := by
            rw [HR.out]
            unfold endA
            rw [if_neg (by simp), if_neg (by simpa using hg)]
          rw [e4]
          exact ⟨_, rfl, HS.out.1.below HR1.out.2, HS.out.2.below.trans (HR1.out.2.mono HS.out.2.below.size)⟩
    · have dn : ((er : Int) != 0) = true := by rw [bne_iff_ne]; omega
      have He := hid he
      clear he
      go_wp2_with fail
      go_ret2
      have e4 : R = ([], er) := by
        rw [HR.out]
        unfold endA
        rw [if_pos He.out]
      rw [e4]
      exact ⟨_, rfl, ES.nil _, HS.out.2.below⟩
end Go.Proofs.YthhjdkcnkdffcaaGreat
