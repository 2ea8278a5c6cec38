/- slices.AppendSeq, slices.Collect at []uint64, against whatever iterator. -/
import Derived.Test.YtacmjpkcimjjpaaItG
import Derived.Test.YtacmjpkcimjjpaaItK
namespace Go.Proofs.Ytacmjpkcimjjpaa
set_option linter.unusedSimpArgs false
set_option linter.unusedVariables false
open Go.RowKit Go.Maps Go.Shelf
attribute [local go_sem] Oper.semAt_some

def w64s (l : List Nat) : List Value := l.map fun (x : Nat) => Value.int .u64 (x : Int)
theorem w64s_length (l : List Nat) : (w64s l).length = l.length := by simp [w64s]
theorem w64s_snoc (l : List Nat) (x : Nat) : w64s (l ++ [x]) = w64s l ++ [.int .u64 (x : Int)] := by simp [w64s]

theorem Try.infoU64 : (Try.prog.info? 22).map (fun i => (i.zero, i.size, i.bytes)) = some (some (.int .u64 0), 1, 8) := by kernel_rfl

/-- What the collecting function holds between two rounds. -/
def ApI (M0 : Nat → Prop) (w : World) (pre : List Nat) (M : Nat → Prop) (W : World) : Prop :=
  ∃ v, Col w.heap.size 40 22 1 W w.heap.size v pre.length (w64s pre) ∧ ¬ M w.heap.size ∧ (∀ k, v.ownBlock = some k → ¬ M k) ∧ Fr M0 w M W

set_option maxRecDepth 100000 in
set_option maxHeartbeats 2000000 in
theorem apSeq (n : Nat) (w : World) {gf : Nat} {lb : Array Value} (eg : ∀ args w, (callFunc gf args).run Try.prog w = .ok (.enter gf args) w)
    {T : List Nat → Nat → (Nat → Prop) → World → Prop} {E Ep : List Nat → World → Prop} {N : Nat} {M0 : Nat → Prop} {A : World → Prop}
    (hseq : SeqM (n - 1) Try.prog gf lb (fun x : Nat => #[.int .u64 (x : Int)]) (fun _ _ => False) T E Ep N M0 A) (hA : A w) (hA2 : ∀ W o, A W → A (W.alloc o)) (hM0 : ∀ k, M0 k → k < w.heap.size)
    (hE : Turn w.heap.size E) (hEp : Turn w.heap.size Ep) (hN : N ≤ 17592186044416) :
    CallsIn Fence.wide n Try.prog 78 #[.slice none 0 0, .func (.func gf) #[] lb] w fun e w' => ∃ v xs M, e = .returned v ∧ E xs w' ∧ w'.ownsRow w.heap.size 22 1 v xs.length (w64s xs) ∧ Fr M0 w M w' := by
  refine callsIn_of_wp_marks Try.func78 rfl trivial ?_ rfl
  simp only [Try.ntmps78, List.size_toArray, List.length_cons, List.length_nil, Nat.reduceAdd, Nat.reduceSub, Array.replicate_succ, Array.replicate_zero, List.push_toArray, List.append_toArray, List.nil_append, List.cons_append]
  have HE := hid (And.intro hE hEp)
  have HN := hid (And.intro hA2 (And.intro hM0 hN))
  clear hE hEp hA2 hM0 hN
  gi_wp2
  have hb0 : Below w.heap.size w (w.alloc (.cells #[.slice none 0 0] 40)) := (Below.refl _ _).alloc (Nat.le_refl _) _
  have hs0 : (w.alloc (.cells #[.slice none 0 0] 40)).heap.size = w.heap.size + 1 := by simp
  have hr0 : RowAt (w.alloc (.cells #[.slice none 0 0] 40)) w.heap.size 40 #[.slice none 0 0] := heap_alloc_new _ _
  have hA0 := HN.out.1 _ (.cells #[.slice none 0 0] 40) hA
  refine wpIn_rangeM n (gf := gf) (lb := lb) rfl eg hseq hA0 HN.out.1 (fun k hk => by have := HN.out.2.1 k hk; omega)
    (fun s W l o o' h hl hw ho => HE.out.1 s W l o o' h (by omega) hw ho) (fun s W l o o' h hl hw ho => HE.out.2 s W l o o' h (by omega) hw ho) (fun _ => rfl)
    (ApI M0 w) (fun _ _ _ _ => False) (fun _ x _ a _ => a = { tmps := #[.slice none 0 0, .func (.func gf) #[] lb, .pointer (some ⟨w.heap.size, 0, none⟩), undef, .slice none 0 0, .int .u64 (x : Int), .func (.func gf) #[] lb, .int .u64 (x : Int), undef, undef, undef, undef, undef], defers := [] })
    ?abide (fun _ _ _ _ _ _ h _ => h) ?turn (fun _ _ _ _ _ _ h _ _ _ => h) (fun _ _ _ _ _ h _ _ _ => h) ?start ?assign ?body ?done ?stop
  case abide =>
    rintro pre M M' W W' ⟨v, hc, hm, hv, hf⟩ hi
    have hl := hc.lt
    exact ⟨v, hc.same (hi.keep _ hl.1 hm) (fun k hk => hi.keep k (hl.2 k hk).2 (hv k hk)), fun h => by rcases hi.new _ h with h | h; exact hm h; omega, fun k hk h => by rcases hi.new _ h with h | h; exact hv k hk h; have := (hl.2 k hk).2; omega, hf.its hi⟩
  case turn =>
    rintro ⟨pre, M⟩ W l o o' ⟨v, hc, hm, hv, hf⟩ hl ho hoc
    refine ⟨v, hc.same (World.putObj_heap_other (by omega)) (fun k hk => World.putObj_heap_other (fun e => ?_)), hm, hv, hf.turn _ (by omega)⟩
    subst e
    rcases hc.own.2 with ⟨rfl, _⟩ | ⟨g, cap, cur, rfl, hg', hcc, rest⟩
    · simp [Value.ownBlock] at hk
    · have : g = k := by simpa [Value.ownBlock] using hk
      subst this
      rw [hcc] at ho; cases ho; cases hoc
  case start =>
    exact ⟨_, Col.nil hr0, fun h => by have := HN.out.2.1 _ h; omega, fun k hk => (by simp [Value.ownBlock] at hk), (Fr.refl _ _).below (hb0)⟩
  case assign =>
    intro l pre x M W K hi ht hlen hml hl hlt hK
    gi_wp2
    exact hK _ _ (KeepsFrom.refl _ _) (Kept.refl _ _) hi rfl
  case body =>
    rintro l pre x M a₁ W ⟨v, hc, hm, hv, hf⟩ rfl hlen hml hl hlt
    obtain ⟨i0, hi, hz0, hz1, hz2⟩ := info_parts Try.infoU64
    have c0 : W.cell? ⟨w.heap.size, 0, none⟩ = some v := hc.row.cell 0
    have f0 := hc.row.own 0
    have HC := hid (And.intro hc (And.intro hm (And.intro hv (And.intro hf hlen))))
    have HI := hid (And.intro hi (And.intro hz0 (And.intro hz1 hz2)))
    clear hc hm hv hf hlen hi hz0 hz1 hz2
    gi_wp2_with (gi_at_builtin; refine wpListIn_append_grew _ rfl _ _ 40 40 rfl w.heap.size 22 i0 (.int .u64 0) 1 8 Try.underlying40 HI.out.1 HI.out.2.1 HI.out.2.2.1 HI.out.2.2.2 rfl _ pre.length _ rfl (HC.out.1.own.alloc _) _ 1 [.int .u64 (x : Int)] rfl (Src.one W Try.underlying40 _ rfl _) ?c1 ?c2 ?c3 ?_)
    case c1 => have := HC.out.2.2.2.2; have := HN.out.2.2; simp only [maxLen]; omega
    case c2 => have := HC.out.2.2.2.2; have := HN.out.2.2; omega
    case c3 => have := HC.out.2.2.2.1.size; simp; omega
    intro v' w3 hown hg
    obtain ⟨p', cap', rfl⟩ := ownsRow_form hown
    have hb3 : RowAt w3 w.heap.size 40 #[v] := (hg.block (by have := HC.out.1.lt.1; simp; omega) HC.out.1.ne).trans (((Below.refl _ W).alloc (Nat.le_refl _) _).block _ HC.out.1.lt.1 |>.trans HC.out.1.row)
    have c3 := hb3.cell 0
    have f3 := hb3.own 0
    have HS := hid (HC.out.1.step ⟨_, rfl⟩ hown hg)
    clear hown hg hb3 c0 f0
    gi_wp2
    refine ⟨HS.out.2.others.from _, HS.out.2.kept (fun h => HC.out.2.1 h.1) (fun k hk h => HC.out.2.2.1 k hk h.1), .slice p' (pre.length + 1) cap', ?_, fun h => HC.out.2.1 h.1, fun k hk h => ?_, (HS.out.2.fr HC.out.2.2.2.1 (Nat.le_refl _) (fun k hk => (HC.out.1.lt.2 k hk).1)).sub (fun k hk => hk.1)⟩
    · rw [List.length_append, w64s_snoc]; exact HS.out.1
    · rcases HS.out.2.lies k hk with e | e
      · exact HC.out.2.2.1 k e h.1
      · have := hml k h.1; omega
  case done =>
    rintro D xs M W hD hE ⟨v, hc, hm, hv, hf⟩ hd
    have c0 : W.cell? ⟨w.heap.size, 0, none⟩ = some v := hc.row.cell 0
    have HC := hid (And.intro hc (And.intro hE (And.intro hf hD)))
    have Hd := hid hd
    clear hc hm hv hf hE hd
    gi_wp2
    refine ⟨by simp, .inl ⟨_, _, rfl, run_takeDeferred Hd.out, ?_⟩⟩
    have hDl : w.heap.size ≤ D := by have := HC.out.2.2.2; omega
    refine ⟨_, results_tmp rfl _ _ _, v, xs, M, rfl, HE.out.1 xs W D _ _ HC.out.2.1 hDl Hd.out rfl, ?_, HC.out.2.2.1.turn _ hDl⟩
    refine (HC.out.1.same (W' := W.putObj D (.deferred none)) (World.putObj_heap_other (by have := HC.out.2.2.2; omega)) (fun k hk => World.putObj_heap_other (fun e => ?_))).own
    subst e
    rcases HC.out.1.own.2 with ⟨rfl, _⟩ | ⟨g, cap, cur, rfl, hg', hcc, rest⟩
    · simp [Value.ownBlock] at hk
    · have : g = k := by simpa [Value.ownBlock] using hk
      subst this
      have := Hd.out
      rw [hcc] at this; cases this
  case stop =>
    intro D c pre M W hl hp h hD
    exact h.elim
end Go.Proofs.Ytacmjpkcimjjpaa
