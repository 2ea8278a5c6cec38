/- The rows of two memories, laid on the one, are the other one; turned about, the other way round: plain. -/
import Derived.Test.YthlnjfnjmjdohaaZBmH
namespace Go.Proofs.Ythlnjfnjmjdohaa
set_option linter.unusedSimpArgs false
set_option linter.unusedVariables false

def oldC (d : Dz) : Cz := ⟨d.at_, 1, d.old⟩
def newC (d : Dz) : Cz := ⟨d.at_, 1, d.new⟩
theorem push_old (P : List Gz) (d : Dz) : (pushD P d).map oldM = pushC (P.map oldM) (oldC d) := by
  rcases List.eq_nil_or_concat P with rfl | ⟨l, g, rfl⟩
  · rfl
  · rw [List.concat_eq_append, pushD_snoc, List.map_append, List.map_cons, List.map_nil, pushC_snoc]
    by_cases h : g.at_ + g.old.length = d.at_
    · rw [if_pos h, if_pos ⟨h, rfl⟩, List.map_append]; rfl
    · rw [if_neg h, if_neg (fun e => h e.1), List.map_append, List.map_append]; rfl
theorem push_long (P : List Gz) (d : Dz) (h : P.any longM = false) : (pushD P d).any longM = false ∧ (pushD P d).map newM = pushC (P.map newM) (newC d) := by
  rcases List.eq_nil_or_concat P with rfl | ⟨l, g, rfl⟩
  · exact ⟨rfl, rfl⟩
  · rw [List.concat_eq_append] at h ⊢
    rw [List.any_append, Bool.or_eq_false_iff] at h
    have hg : g.old.length = g.new.length := by
      have := h.2
      simp only [List.any_cons, List.any_nil, Bool.or_false] at this
      unfold longM at this
      simpa using this
    rw [pushD_snoc, List.map_append, List.map_cons, List.map_nil, pushC_snoc]
    by_cases hc : g.at_ + g.old.length = d.at_
    · rw [if_pos hc, if_pos ⟨by show g.at_ + g.new.length = d.at_; rw [← hg]; exact hc, rfl⟩, List.map_append, List.any_append, h.1]
      refine ⟨?_, rfl⟩
      simp [longM, hg]
    · rw [if_neg hc, if_neg (fun e => hc (by have e1 : g.at_ + g.new.length = d.at_ := e.1; rw [hg]; exact e1)), List.map_append, List.map_append, List.any_append, List.any_append, h.1, h.2]
      exact ⟨rfl, rfl⟩
theorem fold_old : ∀ (ds : List Dz) (P : List Gz), (ds.foldl pushD P).map oldM = (ds.map oldC).foldl pushC (P.map oldM)
  | [], P => rfl
  | d :: ds, P => by rw [List.foldl_cons, fold_old ds, push_old, List.map_cons, List.foldl_cons]
theorem fold_new : ∀ (ds : List Dz) (P : List Gz), P.any longM = false → (ds.foldl pushD P).any longM = false ∧ (ds.foldl pushD P).map newM = (ds.map newC).foldl pushC (P.map newM)
  | [], P, h => ⟨h, rfl⟩
  | d :: ds, P, h => by
    obtain ⟨h1, h2⟩ := push_long P d h
    obtain ⟨h3, h4⟩ := fold_new ds _ h1
    exact ⟨h3, by rw [List.foldl_cons, h4, h2, List.map_cons, List.foldl_cons]⟩

section
variable {A B : List Pz}
/-- The rows of two memories, as bytes. -/
structure MemC (A B : List Pz) (lost gained : List Cz) (ds : List Dz) : Prop where
  z : memZ A B = ⟨piecesZ lost, piecesZ gained, ds.foldl pushD []⟩
  m : MergeIs (cellsZ A) (cellsZ B) (lost, gained, ds)
theorem memC_is (ha : mayZ A = true) (hb : mayZ B = true) : MemC A B (mergeR (cellsZ A) (cellsZ B)).1 (mergeR (cellsZ A) (cellsZ B)).2.1 (mergeR (cellsZ A) (cellsZ B)).2.2 :=
  ⟨rfl, merge_is _ _ (okC_of ha).up (okC_of hb).up (fun c hc => ((okC_of ha).ok c hc).2.1) (fun c hc => ((okC_of hb).ok c hc).2.1)⟩
variable {lost gained : List Cz} {ds : List Dz}
theorem MemC.okL (h : MemC A B lost gained ds) (ha : mayZ A = true) : OkC lost := ⟨h.m.ul, fun c hc => (okC_of ha).ok c ((h.m.l c).1 hc).1⟩
theorem MemC.okG (h : MemC A B lost gained ds) (hb : mayZ B = true) : OkC gained := ⟨h.m.ug, fun c hc => (okC_of hb).ok c ((h.m.g c).1 hc).1⟩
theorem MemC.at_ (h : MemC A B lost gained ds) (ha : mayZ A = true) {d : Dz} (hd : d ∈ ds) : d.at_ < MAXA := by
  obtain ⟨c, hc, e, -⟩ := (h.m.d d).1 hd
  rw [← e]
  exact ((okC_of ha).ok c hc).1
theorem MemC.okO (h : MemC A B lost gained ds) (ha : mayZ A = true) : OkC (ds.map oldC) := by
  refine ⟨?_, fun c hc => ?_⟩
  · unfold Up; rw [List.pairwise_map]; exact h.m.ud
  · obtain ⟨d, hd, rfl⟩ := List.mem_map.1 hc
    exact ⟨h.at_ ha hd, by show (1 : Int) ≤ 1; omega, by show (1 : Int) ≤ 7; omega⟩
theorem MemC.okN (h : MemC A B lost gained ds) (ha : mayZ A = true) : OkC (ds.map newC) := by
  refine ⟨?_, fun c hc => ?_⟩
  · unfold Up; rw [List.pairwise_map]; exact h.m.ud
  · obtain ⟨d, hd, rfl⟩ := List.mem_map.1 hc
    exact ⟨h.at_ ha hd, by show (1 : Int) ≤ 1; omega, by show (1 : Int) ≤ 7; omega⟩
theorem MemC.pat (h : MemC A B lost gained ds) : (memZ A B).patches.map oldM = piecesZ (ds.map oldC) ∧ (memZ A B).patches.map newM = piecesZ (ds.map newC) ∧ (memZ A B).patches.any longM = false := by
  rw [h.z]
  obtain ⟨h1, h2⟩ := fold_new ds [] rfl
  exact ⟨fold_old ds [], h2, h1⟩
/-- A byte with the same protection in both. -/
theorem same_prot {X Y : List Cz} (hX : OkC X) (hY : OkC Y) {c d : Cz} (hc : c ∈ X) (hd : d ∈ Y) (e : c.at_ = d.at_) : protAt Y c.at_ = d.prot ∧ protAt X d.at_ = c.prot :=
  ⟨by rw [e]; exact protAt_mem hY.up hd, by rw [← e]; exact protAt_mem hX.up hc⟩
theorem mem_may (ha : mayZ A = true) (hb : mayZ B = true) : mayRowsZ (memZ A B) = true := by
  have h := memC_is ha hb
  obtain ⟨p1, p2, p3⟩ := h.pat
  have oa := okC_of ha
  have ob := okC_of hb
  unfold mayRowsZ
  rw [p1, p2, p3, h.z]
  dsimp only
  rw [may_pieces _ (h.okL ha), may_pieces _ (h.okG hb), may_pieces _ (h.okO ha), may_pieces _ (h.okN ha)]
  have m1 : meetZ (piecesZ ((mergeR (cellsZ A) (cellsZ B)).2.2.map oldC)) (piecesZ (mergeR (cellsZ A) (cellsZ B)).1) = false := by
    rw [← Bool.not_eq_true, meetZ_iff, cells_pieces, cells_pieces]
    rintro ⟨x, hx, c, hc, e⟩
    obtain ⟨d, hd, rfl⟩ := List.mem_map.1 hx
    obtain ⟨c', hc', e1, -, e2, -⟩ := (h.m.d d).1 hd
    obtain ⟨g1, g2⟩ := (h.m.l c).1 hc
    have e : d.at_ = c.at_ := e
    have q1 := protAt_mem oa.up hc'
    have q2 := protAt_mem oa.up g1
    rw [e1, e] at q1
    rw [e] at e2
    exact g2 (e2.trans (q1.symm.trans q2))
  have m2 : meetZ (piecesZ ((mergeR (cellsZ A) (cellsZ B)).2.2.map oldC)) (piecesZ (mergeR (cellsZ A) (cellsZ B)).2.1) = false := by
    rw [← Bool.not_eq_true, meetZ_iff, cells_pieces, cells_pieces]
    rintro ⟨x, hx, c, hc, e⟩
    obtain ⟨d, hd, rfl⟩ := List.mem_map.1 hx
    obtain ⟨c', hc', e1, -, e2, -⟩ := (h.m.d d).1 hd
    obtain ⟨g1, g2⟩ := (h.m.g c).1 hc
    have e : d.at_ = c.at_ := e
    have q1 := protAt_mem oa.up hc'
    have q2 := protAt_mem ob.up g1
    rw [e1, e] at q1
    rw [e] at e2
    exact g2 (q1.trans (e2.symm.trans q2))
  rw [m1, m2]
  rfl
theorem byteAt_map {ds : List Dz} (hu : UpD ds) {d : Dz} (hd : d ∈ ds) : byteAt (ds.map newC) d.at_ = some d.new :=
  byteAt_mem (c := newC d) (by unfold Up; rw [List.pairwise_map]; exact hu) (List.mem_map_of_mem hd)
theorem mem_lay (ha : mayZ A = true) (hb : mayZ B = true) : layZ A (memZ A B) = (0, piecesZ (cellsZ B)) := by
  have h := memC_is ha hb
  obtain ⟨lost, hlost⟩ : ∃ l, l = (mergeR (cellsZ A) (cellsZ B)).1 := ⟨_, rfl⟩
  obtain ⟨gained, hgained⟩ : ∃ l, l = (mergeR (cellsZ A) (cellsZ B)).2.1 := ⟨_, rfl⟩
  obtain ⟨ds, hds⟩ : ∃ l, l = (mergeR (cellsZ A) (cellsZ B)).2.2 := ⟨_, rfl⟩
  rw [← hlost, ← hgained, ← hds] at h
  obtain ⟨p1, p2, p3⟩ := h.pat
  have oa := okC_of ha
  have ob := okC_of hb
  have okl := h.okL ha
  unfold layZ
  rw [ha, mem_may ha hb]
  have e1 : cellsZ (memZ A B).lost = lost := by rw [h.z]; exact cells_pieces _
  have e2 : cellsZ (memZ A B).gained = gained := by rw [h.z]; exact cells_pieces _
  have hlay : layOf A (memZ A B) = (0, cellsZ B) := by
    unfold layOf
    rw [p1, p2, e1, e2, cells_pieces, cells_pieces]
    have inM : ∀ c, c ∈ minusC (cellsZ A) lost ↔ c ∈ cellsZ A ∧ protAt (cellsZ B) c.at_ = c.prot := fun c => by
      unfold minusC
      rw [List.mem_filter, beq_iff_eq, protAt_zero okl]
      constructor
      · rintro ⟨h1, h2⟩
        exact ⟨h1, Classical.byContradiction (fun hn => h2 c ((h.m.l c).2 ⟨h1, hn⟩) rfl)⟩
      · rintro ⟨h1, h2⟩
        refine ⟨h1, fun x hx e => ?_⟩
        obtain ⟨g1, g2⟩ := (h.m.l x).1 hx
        have q1 := protAt_mem oa.up g1
        have q2 := protAt_mem oa.up h1
        rw [e] at q1 g2
        exact g2 (h2.trans (q2.symm.trans q1))
    have okm := okC_minus (B := lost) oa
    have m1 : missC (cellsZ A) lost = false := by
      rw [← Bool.not_eq_true, missC_iff]
      rintro ⟨c, hc, hn⟩
      exact hn ((h.m.l c).1 hc).1
    have m2 : othC (minusC (cellsZ A) lost) (ds.map oldC) = false := by
      rw [← Bool.not_eq_true, othC_iff]
      rintro ⟨x, hx, hn⟩
      obtain ⟨d, hd, rfl⟩ := List.mem_map.1 hx
      obtain ⟨c, hc, q1, q2, q3, -⟩ := (h.m.d d).1 hd
      refine hn ((byteAt_some okm.up).2 ⟨c, (inM c).2 ⟨hc, by rw [q1]; exact q3⟩, q1, q2⟩)
    have m3 : meetC (minusC (cellsZ A) lost) gained = false := by
      rw [← Bool.not_eq_true, meetC_iff]
      rintro ⟨c, hc, d, hd, e⟩
      obtain ⟨g1, g2⟩ := (inM c).1 hc
      obtain ⟨k1, k2⟩ := (h.m.g d).1 hd
      obtain ⟨s1, s2⟩ := same_prot oa ob g1 k1 e
      exact k2 (s2.trans (g2.symm.trans s1))
    rw [layC_ok m1 m2 m3]
    have okp := okC_pat (B := ds.map newC) okm
    have okg := h.okG hb
    have hres : mergeC (patC (minusC (cellsZ A) lost) (ds.map newC)) gained = cellsZ B := by
      refine up_ext (up_mergeC _ _ okp.up okg.up (by rw [meet_pat]; exact m3)) ob.up (fun e => ?_)
      rw [mem_mergeC]
      -- what stands where both have it with one protection
      have key : ∀ c ∈ cellsZ A, ∀ b ∈ cellsZ B, c.at_ = b.at_ → c.prot = b.prot → (⟨c.at_, c.prot, (byteAt (ds.map newC) c.at_).getD c.b⟩ : Cz) = b := fun c hc b hb' e1 e2 => by
        have hbb : (byteAt (ds.map newC) c.at_).getD c.b = b.b := by
          by_cases hq : c.b = b.b
          · have hnone : byteAt (ds.map newC) c.at_ = none := by
              refine byteAt_none (fun x hx ex => ?_)
              obtain ⟨d, hd, rfl⟩ := List.mem_map.1 hx
              have ex : d.at_ = c.at_ := ex
              obtain ⟨c', hc', q1, q2, -, q4, q5⟩ := (h.m.d d).1 hd
              have r1 := byteAt_mem oa.up hc'
              have r2 := byteAt_mem oa.up hc
              rw [q1, ex, r2] at r1
              have r3 := byteAt_mem ob.up hb'
              rw [← e1, ← ex, q4] at r3
              have r4 := Option.some.inj r1
              have r5 := Option.some.inj r3
              exact q5 (by rw [← q2, ← r4, hq, ← r5])
            rw [hnone]; exact hq
          · have hd : (⟨c.at_, c.b, b.b⟩ : Dz) ∈ ds := (h.m.d _).2 ⟨c, hc, rfl, rfl, by rw [(same_prot oa ob hc hb' e1).1]; exact e2.symm, by rw [show (⟨c.at_, c.b, b.b⟩ : Dz).at_ = b.at_ from e1]; exact byteAt_mem ob.up hb', hq⟩
            have := byteAt_map h.m.ud hd
            dsimp only at this
            rw [this]; rfl
        obtain ⟨b1, b2, b3⟩ := b
        dsimp only at e1 e2 hbb
        rw [hbb, e1, e2]
      constructor
      · rintro (he | he)
        · unfold patC at he
          obtain ⟨c, hc, rfl⟩ := List.mem_map.1 he
          obtain ⟨g1, g2⟩ := (inM c).1 hc
          obtain ⟨b, hb', e1⟩ := (protAt_pos ob (a := c.at_)).1 (by rw [g2]; have := (oa.ok c g1).2.1; omega)
          have := (same_prot oa ob g1 hb' e1.symm).1
          rw [key c g1 b hb' e1.symm (by rw [← g2, this])]
          exact hb'
        · exact ((h.m.g e).1 he).1
      · intro he
        by_cases hg : protAt (cellsZ A) e.at_ = e.prot
        · obtain ⟨c, hc, e1⟩ := (protAt_pos oa (a := e.at_)).1 (by rw [hg]; have := (ob.ok e he).2.1; omega)
          obtain ⟨s1, s2⟩ := same_prot oa ob hc he e1
          refine .inl (List.mem_map.2 ⟨c, (inM c).2 ⟨hc, by rw [s1, ← hg, s2]⟩, key c hc e he e1 (by rw [← s2, hg])⟩)
        · exact .inr ((h.m.g e).2 ⟨he, hg⟩)
    rw [hres]
  rw [hlay]
  rfl

/-- Turned about. -/
def turnG (g : Gz) : Gz := ⟨g.at_, g.new, g.old⟩
def turnZ (r : Rz) : Rz := ⟨r.gained, r.lost, r.patches.map turnG⟩
def turnD (d : Dz) : Dz := ⟨d.at_, d.new, d.old⟩
theorem push_turn (P : List Gz) (d : Dz) (h : P.any longM = false) : (pushD P d).map turnG = pushD (P.map turnG) (turnD d) := by
  rcases List.eq_nil_or_concat P with rfl | ⟨l, g, rfl⟩
  · rfl
  · rw [List.concat_eq_append] at h ⊢
    rw [List.any_append, Bool.or_eq_false_iff] at h
    have hg : g.old.length = g.new.length := by
      have := h.2
      simp only [List.any_cons, List.any_nil, Bool.or_false] at this
      unfold longM at this
      simpa using this
    rw [pushD_snoc, List.map_append, List.map_cons, List.map_nil, pushD_snoc]
    by_cases hc : g.at_ + g.old.length = d.at_
    · rw [if_pos hc, if_pos (by show g.at_ + g.new.length = d.at_; rw [← hg]; exact hc), List.map_append]; rfl
    · rw [if_neg hc, if_neg (fun e => hc (by have e1 : g.at_ + g.new.length = d.at_ := e; rw [hg]; exact e1)), List.map_append, List.map_append]; rfl
theorem fold_turn : ∀ (ds : List Dz) (P : List Gz), P.any longM = false → (ds.foldl pushD P).map turnG = (ds.map turnD).foldl pushD (P.map turnG)
  | [], P, h => rfl
  | d :: ds, P, h => by rw [List.foldl_cons, fold_turn ds _ (push_long P d h).1, push_turn P d h, List.map_cons, List.foldl_cons]
theorem mem_turn (ha : mayZ A = true) (hb : mayZ B = true) : turnZ (memZ A B) = memZ B A := by
  have h := memC_is ha hb
  have k := memC_is hb ha
  have oa := okC_of ha
  have ob := okC_of hb
  have e1 : (mergeR (cellsZ A) (cellsZ B)).2.1 = (mergeR (cellsZ B) (cellsZ A)).1 := up_ext h.m.ug k.m.ul (fun c => (h.m.g c).trans (k.m.l c).symm)
  have e2 : (mergeR (cellsZ A) (cellsZ B)).1 = (mergeR (cellsZ B) (cellsZ A)).2.1 := up_ext h.m.ul k.m.ug (fun c => (h.m.l c).trans (k.m.g c).symm)
  have sw : ∀ {X Y : List Cz} {d : Dz}, OkC X → OkC Y → Patched X Y d → Patched Y X (turnD d) := fun {X Y d} hX hY hp => by
    obtain ⟨c, hc, q1, q2, q3, q4, q5⟩ := hp
    obtain ⟨b, hb', r1, r2⟩ := (byteAt_some hY.up).1 q4
    refine ⟨b, hb', r1, r2, ?_, ?_, fun e => q5 e.symm⟩
    · show protAt X d.at_ = b.prot
      have s1 := protAt_mem hX.up hc
      have s2 := protAt_mem hY.up hb'
      rw [q1] at s1
      rw [r1] at s2
      rw [s1, ← q3, s2]
    · show byteAt X d.at_ = some d.old
      exact (byteAt_some hX.up).2 ⟨c, hc, q1, q2⟩
  have e3 : (mergeR (cellsZ A) (cellsZ B)).2.2.map turnD = (mergeR (cellsZ B) (cellsZ A)).2.2 := by
    refine upD_ext ?_ k.m.ud (fun d => ?_)
    · unfold UpD; rw [List.pairwise_map]; exact h.m.ud
    · rw [List.mem_map]
      refine Iff.trans ⟨?_, ?_⟩ (k.m.d d).symm
      · rintro ⟨x, hx, rfl⟩
        exact sw oa ob ((h.m.d x).1 hx)
      · intro hd
        exact ⟨turnD d, (h.m.d _).2 (sw ob oa hd), rfl⟩
  rw [h.z, k.z]
  unfold turnZ
  dsimp only
  rw [e1, e2, fold_turn _ [] rfl, e3]
  rfl
theorem mem_self (ha : mayZ A = true) : memZ A A = ⟨[], [], []⟩ := by
  have h := memC_is ha ha
  have oa := okC_of ha
  have e1 : (mergeR (cellsZ A) (cellsZ A)).1 = [] := List.eq_nil_iff_forall_not_mem.2 (fun c hc => by
    obtain ⟨h1, h2⟩ := (h.m.l c).1 hc
    exact h2 (protAt_mem oa.up h1))
  have e2 : (mergeR (cellsZ A) (cellsZ A)).2.1 = [] := List.eq_nil_iff_forall_not_mem.2 (fun c hc => by
    obtain ⟨h1, h2⟩ := (h.m.g c).1 hc
    exact h2 (protAt_mem oa.up h1))
  have e3 : (mergeR (cellsZ A) (cellsZ A)).2.2 = [] := List.eq_nil_iff_forall_not_mem.2 (fun d hd => by
    obtain ⟨c, hc, q1, q2, q3, q4, q5⟩ := (h.m.d d).1 hd
    have := byteAt_mem oa.up hc
    rw [q1, q4] at this
    exact q5 (q2.symm.trans (Option.some.inj this).symm))
  rw [h.z, e1, e2, e3]
  rfl
theorem turn_turn (r : Rz) : turnZ (turnZ r) = r := by
  unfold turnZ
  obtain ⟨a, b, c⟩ := r
  dsimp only
  rw [List.map_map]
  have : turnG ∘ turnG = id := by funext g; rfl
  rw [this, List.map_id]
end
end Go.Proofs.Ythlnjfnjmjdohaa
