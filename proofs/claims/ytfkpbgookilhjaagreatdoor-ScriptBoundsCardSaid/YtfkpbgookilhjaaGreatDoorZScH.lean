/- Lists that are read as they were laid: strings. -/
import Derived.Test.YtfkpbgookilhjaaGreatDoorZScR
import Derived.Test.YtfkpbgookilhjaaGreatDoorZScE
namespace Go.Proofs.YtfkpbgookilhjaaGreatDoor
set_option linter.unusedSimpArgs false
set_option linter.unusedVariables false
open Go.RowKit

theorem Tryz.infoStrH : (Tryz.prog.info? 9).map (fun i => (i.zero, i.size, i.bytes)) = some (some (.string ⟨#[]⟩), 1, 16) := by kernel_rfl
theorem un_strsH : Tryz.prog.underlying 23 = some (.slice 9) := by kernel_rfl

set_option maxHeartbeats 400000 in
/-- Err of a cursor that has not failed. -/
theorem cur_err0 (c : Nat) (w : World) (l : List UInt8) (k : Nat) (h : CurAt w c l k false false) :
    Calls Tryz.prog 35 #[.pointer (some ⟨c, 0, none⟩)] w fun e w' => e = .returned (.int .i64 0) ∧ Below w.heap.size w w' := by
  obtain ⟨v, hv, hb, hk, hc⟩ := h
  obtain ⟨⟨h0, h1, h2, h3⟩, hf⟩ := cur_cells hc
  go_enter Tryz.func35, Tryz.ntmps35
  go_wp2_with (first
    | (go_at_call 75; refine (cur_wrong_ok c _ h3).mono ?_; rintro e w' ⟨rfl, rfl⟩)
    | (go_at_call 74; refine (code_nil _).mono ?_; rintro e w' ⟨rfl, hgr⟩))
  go_ret
  exact ⟨rfl, grownBy_below hgr⟩

def strCs (l : List (List UInt8)) : List Value := l.map (fun s => Value.string (mkS s))
theorem strCs_length (l : List (List UInt8)) : (strCs l).length = l.length := by simp [strCs]
theorem strCs_snoc (l : List (List UInt8)) (s : List UInt8) : strCs (l ++ [s]) = strCs l ++ [.string (mkS s)] := by simp [strCs]

/-- What stands while a list of strings is read. -/
structure StrIn (w W : World) (r c : Nat) (l : List UInt8) (k : Nat) (y : List UInt8) (o : Value) (n : Nat) (done : List (List UInt8)) : Prop where
  rd : RdAt W r c l k
  left : l.drop k = y
  by_ : w.grownBy W (some c)
  own : W.ownsRow w.heap.size 9 1 o n (strCs done)
theorem StrIn.keep {w W W' : World} {r c : Nat} {l y y' : List UInt8} {k k' : Nat} {o : Value} {n : Nat} {done : List (List UInt8)} (h : StrIn w W r c l k y o n done) (hc : c < w.heap.size) (hr : RdAt W' r c l k') (hd : l.drop k' = y') (hg : W.grownBy W' (some c)) : StrIn w W' r c l k' y' o n done :=
  ⟨hr, hd, grownBy_tr h.by_ hg, World.ownsRow.kept h.own hg (.inr (fun e => by have := (World.ownsRow.lt h.own _ e).1; omega))⟩
theorem StrIn.grew {w W W' : World} {r c : Nat} {l y : List UInt8} {k : Nat} {o o' : Value} {n n' : Nat} {done done' : List (List UInt8)} (h : StrIn w W r c l k y o n done) (hw : r < w.heap.size ∧ c < w.heap.size) (hg : Grew W W' o o') (ho : W'.ownsRow w.heap.size 9 1 o' n' (strCs done')) : StrIn w W' r c l k y o' n' done' := by
  have hb : Below w.heap.size W W' := hg.below h.by_.size fun k hk => (World.ownsRow.lt h.own k hk).1
  refine ⟨⟨(hb.block r hw.1).trans h.rd.box, ?_, h.rd.ne⟩, h.left, ⟨hb.os.trans h.by_.os, hb.tape.trans h.by_.tape, hb.output.trans h.by_.output, Nat.le_trans h.by_.size hb.size, fun k hk hr => (hb.block k hk).trans (h.by_.block k hk hr)⟩, ho⟩
  obtain ⟨v, hv, hvc, hk, hcc⟩ := h.rd.cur
  exact ⟨v, hv.under hb (fun b hbk => by have := hvc b hbk; omega), hvc, hk, (hb.block c hw.2).trans hcc⟩

set_option maxHeartbeats 1000000 in
theorem read_strs (r c : Nat) (w : World) (l y : List UInt8) (ss : List (List UInt8)) (k : Nat) (h : RdAt w r c l k) (hl : l.drop k = lowB ss.length 2 ++ (ss.flatMap nmB ++ y)) (hn : ss.length ≤ 64) (hs : ∀ s ∈ ss, s.length ≤ 255) :
    Calls Tryz.prog 38 #[.pointer (some ⟨r, 0, none⟩), .int .i64 2, .int .i64 64, .func (.func 37) #[.pointer (some ⟨r, 0, none⟩)] #[]] w fun e w' =>
      ∃ o, e = .returned o ∧ StrIn w w' r c l (k + 2 + (ss.flatMap nmB).length) y o ss.length ss := by
  have hrc : r < w.heap.size ∧ c < w.heap.size := ⟨(Array.getElem?_eq_some_iff.1 h.box).1, h.cur.lt⟩
  have hw1 : IntKind.i64.wrap (ss.length : Int) = ss.length := IntWalk.i64_in _ (by omega)
  have hd0 : decide ((64 : Int) < (ss.length : Int)) = false := decide_eq_false (by omega)
  have hd0' : decide (64 < ss.length) = false := decide_eq_false (by omega)
  obtain ⟨i0, hi, hz0, hz1, hz2⟩ := info_parts Tryz.infoStrH
  obtain ⟨x0, x1⟩ := h.cell
  have H := hid (And.intro h (And.intro hl (And.intro hs (And.intro hi (And.intro hz0 (And.intro hz1 hz2))))))
  clear h hl hs hi hz0 hz1 hz2
  go_enter Tryz.func38, Tryz.ntmps38
  go_wp2_with fail
  refine (rd_number c _ l _ k ss.length 2 _ (by simp) rfl H.out.1.cur H.out.2.1 (by omega)).mono ?_
  rintro e w1 ⟨rfl, hc1, hd1, hg1⟩
  have h1 : StrIn w w1 r c l (k + 2) (ss.flatMap nmB ++ y) (.slice none 0 0) 0 [] := ⟨H.out.1.next hc1 hg1, hd1, hg1, World.ownsRow_nil _ _ _ _⟩
  have H1 := hid h1
  clear h1 hc1 hd1 hg1 x0 x1
  go_wp2_with fail
  go_loopw [8, 30] (fun o i wr => ∃ n : Nat, n ≤ ss.length ∧ i = .int .i64 (n : Int) ∧ StrIn w wr r c l (k + 2 + ((ss.take n).flatMap nmB).length) ((ss.drop n).flatMap nmB ++ y) o n (ss.take n)) (fun _ i _ => ss.length - (intOf i).toNat)
  case atStart => exact ⟨0, Nat.zero_le _, rfl, by simpa using H1.out⟩
  case round =>
    obtain ⟨n, hn', rfl, hr⟩ := hrel
    by_cases hlt : n < ss.length
    · obtain ⟨s, hsn⟩ : ∃ s, ss[n]? = some s := ⟨_, List.getElem?_eq_getElem hlt⟩
      have hmem := List.mem_of_getElem? hsn
      have hsl := H.out.2.2.1 s hmem
      have e1 : (ss.drop n).flatMap nmB = nmB s ++ (ss.drop (n + 1)).flatMap nmB := by
        obtain ⟨hlt', rfl⟩ := List.getElem?_eq_some_iff.1 hsn
        rw [List.drop_eq_getElem_cons hlt', List.flatMap_cons]
      have e2 := flat_snoc nmB hsn
      have e3 : ss.take (n + 1) = ss.take n ++ [s] := by rw [List.take_add_one, hsn]; rfl
      have hl2 := hr.left
      rw [e1, List.append_assoc] at hl2
      have Hr := hid (And.intro hr (And.intro hl2 (And.intro e2 e3)))
      clear hr hl2 e1 e2 e3 hsn hmem
      go_wp2_with fail
      refine (rd_name r c _ l s _ _ Hr.out.1.rd Hr.out.2.1 (by omega)).mono ?_
      rintro e w2 ⟨rfl, hrd, hdr, hg2⟩
      have h2 := Hr.out.1.keep hrc.2 hrd hdr hg2
      obtain ⟨x0, x1⟩ := h2.rd.cell
      have H2 := hid h2
      clear hrd hdr hg2 h2
      go_wp2_with fail
      refine (cur_err0 c _ l _ H2.out.rd.cur).mono ?_
      rintro e w3 ⟨rfl, hb3⟩
      have h3 := H2.out.keep hrc.2 (H2.out.rd.below hb3) H2.out.left (Below.all hb3 _)
      have H3 := hid h3
      clear h3 hb3 x0 x1
      obtain ⟨p, cap, rfl⟩ := ownsRow_form H3.out.own
      go_wp2_with (at_builtin; refine wpList_append_grew _ rfl _ _ _ _ rfl w.heap.size 9 i0 _ 1 16 un_strsH H.out.2.2.2.1 H.out.2.2.2.2.1 H.out.2.2.2.2.2.1 H.out.2.2.2.2.2.2 rfl (.slice p n cap) n (strCs (ss.take n)) rfl (ownsRow_below H3.out.own ((Below.refl _ _).alloc (Nat.le_refl _) _)) _ 1 [.string (mkS s)] rfl (Src.laid _ un_strsH [.string (mkS s)] 1 rfl (by simp [Value.oneCell']) (0, 0) rfl) (Nat.le_trans (show n + 1 ≤ 100 by omega) (by decide)) (by omega) ?c3 ?_)
      case c3 => have := H3.out.by_.size; simp; omega
      intro v' w4 hown4 hg4
      have h4 := H3.out.grew hrc (Grew.under ((Below.refl _ _).alloc (Nat.le_refl _) _) hg4) (done' := ss.take (n + 1)) (by rw [Hr.out.2.2.2, strCs_snoc]; exact hown4)
      have H4 := hid h4
      clear h4 hown4 hg4
      go_wp2_with fail
      refine ⟨⟨n + 1, by omega, by go_num, ?_⟩, by simp [intOf]; omega⟩
      have := H4.out
      rwa [show k + 2 + ((ss.take n).flatMap nmB).length + 2 + s.length = k + 2 + ((ss.take (n + 1)).flatMap nmB).length by rw [Hr.out.2.2.1, List.length_append, nmB_length]; omega] at this
    · have Hr := hid hr
      clear hr
      go_wp2_with fail
      go_ret
      have := Hr.out
      obtain rfl : n = ss.length := by omega
      rw [List.take_of_length_le (Nat.le_refl _), List.drop_of_length_le (Nat.le_refl _)] at this
      exact ⟨_, rfl, this⟩
end Go.Proofs.YtfkpbgookilhjaaGreatDoor
