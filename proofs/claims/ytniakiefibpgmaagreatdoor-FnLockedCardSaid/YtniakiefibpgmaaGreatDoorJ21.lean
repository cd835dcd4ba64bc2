/- Drawn regions, code, and functions: what is reckoned abstractly is what the function gives back. -/
import Derived.Test.YtniakiefibpgmaaGreatDoorJ20
set_option linter.unusedVariables false
set_option linter.unusedSimpArgs false
namespace Go.Proofs.YtniakiefibpgmaaGreatDoorK
open Go.RowKit

def edgesOf (ops : Array Oper) (i : Nat) : List Nat := match ops[i]? with | some o => (o.after.toList.filter (Region.binds .any)).map (·.on) | none => []
/-- Must j come ahead of i? -/
def aheadB (ops : Array Oper) : Nat → Nat → Nat → Bool
  | 0, _, _ => false
  | k + 1, j, i => (edgesOf ops i).any fun e => e == j || aheadB ops k j e
/-- Operations with their instructions, in an order that they may have: each may change places with those ahead of it that need not be ahead. -/
def okDrawL (P : Program) (N : Nat) (ops : Array Oper) : List (Nat × I) → List (Nat × I) → Bool
  | _, [] => true
  | pre, (i, x) :: post => (match ops[i]? with | some o => okI P N ops o x | none => false) && okAn x && ((edgesOf ops i).all fun e => pre.any fun q => q.1 == e) &&
    (pre.all fun q => q.1 != i && (aheadB ops ops.size q.1 i || indep q.2 x)) && okDrawL P N ops ((i, x) :: pre) post
def okDraw (P : Program) (N : Nat) (ops : Array Oper) (l : List (Nat × I)) : Bool :=
  okDrawL P N ops [] l && (List.range ops.size).all fun i => l.any fun q => q.1 == i
theorem okDrawL_at {P : Program} {N : Nat} {ops : Array Oper} : ∀ {l pre : List (Nat × I)}, okDrawL P N ops pre l = true → ∀ {A : List (Nat × I)} {i : Nat} {x : I} {B : List (Nat × I)}, l = A ++ (i, x) :: B →
    (∃ o, ops[i]? = some o ∧ okI P N ops o x = true) ∧ okAn x = true ∧ (∀ e ∈ edgesOf ops i, ∃ q, (q ∈ A ∨ q ∈ pre) ∧ q.1 = e) ∧ ∀ q, q ∈ A ∨ q ∈ pre → q.1 ≠ i ∧ (aheadB ops ops.size q.1 i = true ∨ indep q.2 x = true)
  | [], _, _, A, _, _, _, e => by cases A <;> cases e
  | (i, x) :: l, pre, h, [], i', x', B, e => by
    simp only [List.nil_append, List.cons.injEq, Prod.mk.injEq] at e
    obtain ⟨⟨rfl, rfl⟩, rfl⟩ := e
    simp only [okDrawL, Bool.and_eq_true, List.all_eq_true, List.any_eq_true, beq_iff_eq, bne_iff_ne, ne_eq, Bool.or_eq_true] at h
    obtain ⟨⟨⟨⟨h1, h2⟩, h3⟩, h4⟩, _⟩ := h
    refine ⟨?_, h2, fun e he => ?_, fun q hq => ?_⟩
    · split at h1
      · rename_i o ho; exact ⟨o, ho, h1⟩
      · cases h1
    · obtain ⟨q, hq, e⟩ := h3 e he; exact ⟨q, .inr hq, e⟩
    · rcases hq with hq | hq
      · cases hq
      · exact h4 q hq
  | (i, x) :: l, pre, h, q0 :: A, i', x', B, e => by
    simp only [List.cons_append, List.cons.injEq] at e
    obtain ⟨rfl, e⟩ := e
    simp only [okDrawL, Bool.and_eq_true] at h
    obtain ⟨h1, h2, h3, h4⟩ := okDrawL_at h.2 e
    refine ⟨h1, h2, fun e he => ?_, fun q hq => h4 q ?_⟩
    · obtain ⟨q, hq, e⟩ := h3 e he
      refine ⟨q, ?_, e⟩
      simp only [List.mem_cons] at hq ⊢
      rcases hq with hq | hq | hq
      · exact .inl (.inr hq)
      · exact .inl (.inl hq)
      · exact .inr hq
    · simp only [List.mem_cons] at hq ⊢
      rcases hq with (hq | hq) | hq
      · exact .inr (.inl hq)
      · exact .inl hq
      · exact .inr (.inr hq)

theorem ready_iff {ops : Array Oper} {listed : Array Bool} {i : Nat} : i ∈ Region.ready .any ops listed ↔ i < ops.size ∧ listed.getD i true = false ∧ ∀ e ∈ edgesOf ops i, listed.getD e false = true := by
  simp only [Region.ready, List.mem_filter, List.mem_range, Bool.and_eq_true, Bool.not_eq_true']
  constructor
  · rintro ⟨h1, h2, h3⟩
    refine ⟨h1, h2, fun e he => ?_⟩
    simp only [edgesOf, Array.getElem?_eq_getElem h1, List.mem_map, List.mem_filter] at he
    obtain ⟨x, ⟨hx, hb⟩, rfl⟩ := he
    rw [Array.getElem?_eq_getElem h1] at h3
    simp only [Option.map_some, Option.getD_some, Array.all_eq_true_iff_forall_mem, Bool.or_eq_true, Bool.not_eq_true'] at h3
    rcases h3 x (by simpa using hx) with q | q
    · rw [q] at hb; cases hb
    · exact q
  · rintro ⟨h1, h2, h3⟩
    refine ⟨h1, h2, ?_⟩
    rw [Array.getElem?_eq_getElem h1]
    simp only [Option.map_some, Option.getD_some, Array.all_eq_true_iff_forall_mem, Bool.or_eq_true, Bool.not_eq_true']
    intro x hx
    cases hb : Region.binds .any x with
    | false => exact .inl rfl
    | true =>
      refine .inr (h3 x.on ?_)
      simp only [edgesOf, Array.getElem?_eq_getElem h1, List.mem_map, List.mem_filter]
      exact ⟨x, ⟨by simpa using hx, hb⟩, rfl⟩

mutual
theorem RegOK.look {w : World} {fz : Nat → Prop} {loc : Nat → Option (Nat × Nat × Nat)} {So : Nat → Nat → Prop} {objs objs' : List (Nat × Ob)} (hk : ∀ k, klook objs' k = klook objs k) : ∀ (v : Value) (av : AV), RegOK w fz loc So objs v av → RegOK w fz loc So objs' v av
  | v, .d x, h => h
  | v, .nil _, h => h
  | v, .vw o x, h => by simp only [RegOK] at h ⊢; rw [hk]; exact h
  | v, .h o off n, h => by simp only [RegOK] at h ⊢; rw [hk]; exact h
  | v, .p o i j, h => by simp only [RegOK] at h ⊢; rw [hk]; exact h
  | v, .rp o cs, h => by simp only [RegOK] at h ⊢; simp only [hk]; exact h
  | v, .rf a, h => by
    simp only [RegOK] at h ⊢
    obtain ⟨b, off, u, h1, h2, h3, h4, h5⟩ := h
    exact ⟨b, off, u, h1, h2, h3, h4, RegOK.look hk u a h5⟩
  | v, .agg l, h => by
    simp only [RegOK] at h ⊢
    obtain ⟨vs, h1, h2⟩ := h
    exact ⟨vs, h1, RegsOK.look hk vs l h2⟩
  | v, .tup l, h => by
    simp only [RegOK] at h ⊢
    obtain ⟨vs, h1, h2⟩ := h
    exact ⟨vs, h1, RegsOK.look hk vs l h2⟩
  | v, .clo f l, h => by
    simp only [RegOK] at h ⊢
    obtain ⟨vs, h1, h2⟩ := h
    exact ⟨vs, h1, RegsOK.look hk vs l h2⟩
  | v, .junk, _ => by simp only [RegOK]
theorem RegsOK.look {w : World} {fz : Nat → Prop} {loc : Nat → Option (Nat × Nat × Nat)} {So : Nat → Nat → Prop} {objs objs' : List (Nat × Ob)} (hk : ∀ k, klook objs' k = klook objs k) : ∀ (vs : List Value) (l : List AV), RegsOK w fz loc So objs vs l → RegsOK w fz loc So objs' vs l
  | [], [], _ => by simp only [RegsOK]
  | v :: vs, a :: l, h => by simp only [RegsOK] at h ⊢; exact ⟨RegOK.look hk v a h.1, RegsOK.look hk vs l h.2⟩
  | [], _ :: _, h => by simp only [RegsOK] at h
  | _ :: _, [], h => by simp only [RegsOK] at h
end
theorem ObjOK.look {w : World} {fz : Nat → Prop} {loc : Nat → Option (Nat × Nat × Nat)} {So : Nat → Nat → Prop} {objs objs' : List (Nat × Ob)} (hk : ∀ k, klook objs' k = klook objs k) {l : Option (Nat × Nat × Nat)} {ob : Ob} {S : Nat → Prop} (h : ObjOK w fz loc So objs l ob S) : ObjOK w fz loc So objs' l ob S := by
  refine ⟨h.none', fun b off cap e => ?_⟩
  obtain ⟨h1, vs, Sf, h2, h3, h4, h5⟩ := h.some' b off cap e
  refine ⟨h1, vs, Sf, h2, h3, h4, fun i j c hc => ?_⟩
  have := h5 i j c hc
  unfold CellOK at this ⊢
  cases c with
  | lent o => simp only [hk]; exact this
  | fn a => exact ⟨this.1, this.2.1, RegOK.look hk _ _ this.2.2⟩
  | _ => exact this
/-- What is one to whoever looks up stands for the same. -/
theorem Rep.eqv {N : Nat} {E : Ent} {σ τ : St} {a : Act} {w : World} (h : Rep N E σ a w) (he : Eqv σ τ) : Rep N E τ a w := by
  obtain ⟨loc, So, Pd, h⟩ := h
  exact ⟨loc, So, Pd, ⟨h.size, h.defers, h.keep, h.ok, h.lt, fun o x hx => by rw [he.2]; exact h.has o x hx, h.dis, h.pdlt, fun o ob hk => (h.objs o ob (by rw [← he.2]; exact hk)).look he.2,
    fun t v hk => RegOK.look he.2 _ _ (h.regs t v (by rw [← he.1]; exact hk)), fun k ob hk hl => h.pin k ob hk (by rw [← he.2]; exact hl)⟩⟩

section rep
variable {P : Program} {N : Nat} {E : Ent} {σ σ' : St} {a : Act} {w : World} {X : XF} {gl : Globs}

def closedL (ops : Array Oper) (listed : Array Bool) : Prop := ∀ i, listed.getD i false = true → ∀ e ∈ edgesOf ops i, listed.getD e false = true
theorem ahead_listed {ops : Array Oper} {listed : Array Bool} (hc : closedL ops listed) : ∀ (k : Nat) {j i : Nat}, aheadB ops k j i = true → (∀ e ∈ edgesOf ops i, listed.getD e false = true) → listed.getD j false = true
  | 0, _, _, h, _ => by simp [aheadB] at h
  | k + 1, j, i, h, he => by
    simp only [aheadB, List.any_eq_true, Bool.or_eq_true, beq_iff_eq] at h
    obtain ⟨e, h1, h2⟩ := h
    rcases h2 with h2 | h2
    · subst h2; exact he e h1
    · exact ahead_listed hc k h2 (hc e (he e h1))

def remOf (l : List (Nat × I)) (listed : Array Bool) : List (Nat × I) := l.filter fun q => !listed.getD q.1 true
theorem getD_lt {listed : Array Bool} {e : Nat} (h : e < listed.size) (a b : Bool) : listed.getD e a = listed.getD e b := by
  simp only [Array.getD_eq_getD_getElem?, Array.getElem?_eq_getElem h, Option.getD_some]

/-- Whatever order is drawn. -/
theorem draw_ok (hX : ∀ f as obs r, X f as obs = some r → Ctr P gl f as obs r) (hE : EntOK gl E) {ops : Array Oper} {l : List (Nat × I)} (hd : okDraw P N ops l = true) {Q : Exit → Act → World → Prop} (hQ : ∀ a' w', Rep N E σ' a' w' → Q .normal a' w') :
    ∀ (fuel : Nat) (listed : Array Bool) {σ : St} {a : Act} {w : World}, listed.size = ops.size → closedL ops listed → (remOf l listed).length ≤ fuel →
      (∃ σ'', krun X ((remOf l listed).map Prod.snd) σ = some σ'' ∧ Eqv σ' σ'') → Rep N E σ a w → wpAny P .any ops Q fuel listed a w := by
  simp only [okDraw, Bool.and_eq_true, List.all_eq_true, List.mem_range, List.any_eq_true, beq_iff_eq] at hd
  obtain ⟨hl, hall⟩ := hd
  have hat : ∀ {A : List (Nat × I)} {i : Nat} {x : I} {B : List (Nat × I)}, l = A ++ (i, x) :: B → (∃ o, ops[i]? = some o ∧ okI P N ops o x = true) ∧ okAn x = true ∧ (∀ e ∈ edgesOf ops i, ∃ q, q ∈ A ∧ q.1 = e) ∧ ∀ q ∈ A, q.1 ≠ i ∧ (aheadB ops ops.size q.1 i = true ∨ indep q.2 x = true) := fun e => by
    obtain ⟨h1, h2, h3, h4⟩ := okDrawL_at hl e
    exact ⟨h1, h2, fun e he => by obtain ⟨q, hq, e⟩ := h3 e he; exact ⟨q, hq.resolve_right (by simp), e⟩, fun q hq => h4 q (.inl hq)⟩
  have hlt : ∀ q ∈ l, q.1 < ops.size := fun q hq => by
    obtain ⟨A, B, e⟩ := List.append_of_mem hq
    obtain ⟨⟨o, ho, _⟩, _⟩ := hat (i := q.1) (x := q.2) e
    rcases Nat.lt_or_ge q.1 ops.size with h | h
    · exact h
    · rw [Array.getElem?_eq_none h] at ho; cases ho
  have hempty : ∀ listed : Array Bool, Region.ready .any ops listed = [] → listed.size = ops.size → remOf l listed = [] := by
    intro listed hr hsz
    cases hrem : remOf l listed with
    | nil => rfl
    | cons q r =>
      exfalso
      obtain ⟨A, B, e, hA, hq, _⟩ := List.filter_eq_cons_iff.1 hrem
      obtain ⟨_, _, h3, _⟩ := hat (i := q.1) (x := q.2) e
      have hql : q ∈ l := by rw [e]; simp
      have : q.1 ∈ Region.ready .any ops listed := by
        rw [ready_iff]
        refine ⟨hlt q hql, by simpa using hq, fun e' he => ?_⟩
        obtain ⟨q', hq', rfl⟩ := h3 e' he
        have := hA q' hq'
        rw [getD_lt (by rw [hsz]; exact hlt q' (by rw [e]; simp [hq'])) false true]
        simpa using this
      rw [hr] at this
      cases this
  intro fuel
  induction fuel with
  | zero =>
    intro listed σ a w hsz hc hf hs h
    have hrem : remOf l listed = [] := List.eq_nil_of_length_eq_zero (by omega)
    refine ⟨?_, ?_⟩
    · cases hr : Region.ready .any ops listed with
      | nil => rfl
      | cons i r =>
        have : i ∈ Region.ready .any ops listed := by rw [hr]; simp
        rw [ready_iff] at this
        obtain ⟨q, hq, e⟩ := hall i this.1
        have : q ∈ remOf l listed := List.mem_filter.2 ⟨hq, by rw [e]; simp [this.2.1]⟩
        rw [hrem] at this; cases this
    · rw [hrem] at hs
      obtain ⟨σ'', hs, he⟩ := hs
      simp only [List.map_nil, krun, Option.some.injEq] at hs
      subst hs
      exact hQ a w (h.eqv ⟨fun t => (he.1 t).symm, fun k => (he.2 k).symm⟩)
  | succ fuel ih =>
    intro listed σ a w hsz hc hf hs h
    obtain ⟨σ'', hs, he⟩ := hs
    refine ⟨fun hr => ?_, fun i hi => ?_⟩
    · rw [hempty listed hr hsz] at hs
      simp only [List.map_nil, krun, Option.some.injEq] at hs
      subst hs
      exact hQ a w (h.eqv ⟨fun t => (he.1 t).symm, fun k => (he.2 k).symm⟩)
    · rw [ready_iff] at hi
      obtain ⟨h1, h2, h3⟩ := hi
      obtain ⟨⟨i', x⟩, hq, rfl⟩ := hall i h1
      obtain ⟨A, B, e⟩ := List.append_of_mem hq
      simp only at h1 h2 h3 ⊢
      obtain ⟨⟨o, ho, hok⟩, hax, hedge, hind⟩ := hat e
      have hB : ∀ q ∈ B, q.1 ≠ i' := fun q hq e2 => by
        obtain ⟨B1, B2, e3⟩ := List.append_of_mem hq
        have := (hat (A := A ++ (i', x) :: B1) (i := q.1) (x := q.2) (B := B2) (by rw [e, e3]; simp)).2.2.2 (i', x) (by simp)
        exact this.1 e2.symm
      have hset : ∀ k, k ≠ i' → ∀ b, (listed.setIfInBounds i' true).getD k b = listed.getD k b := fun k hk b => by
        simp only [Array.getD_eq_getD_getElem?, Array.getElem?_setIfInBounds]; rw [if_neg (by omega)]
      have hseti : ∀ b, (listed.setIfInBounds i' true).getD i' b = true := fun b => by
        simp only [Array.getD_eq_getD_getElem?, Array.getElem?_setIfInBounds, if_true]; rw [if_pos (by omega)]; rfl
      have hsplit : remOf l listed = remOf A listed ++ (i', x) :: remOf B listed := by
        simp only [remOf, e, List.filter_append]
        rw [List.filter_cons_of_pos (by simp [h2])]
      have hsplit' : remOf l (listed.setIfInBounds i' true) = remOf A listed ++ remOf B listed := by
        simp only [remOf, e, List.filter_append]
        rw [List.filter_cons_of_neg (by simp [hseti])]
        congr 1
        · exact List.filter_congr fun q hq => by rw [hset _ (hind q hq).1]
        · exact List.filter_congr fun q hq => by rw [hset _ (hB q hq)]
      rw [hsplit, List.map_append, List.map_cons] at hs
      obtain ⟨σ3, hfront, he3⟩ := krun_front (fun y hy => by
        obtain ⟨q, hq, rfl⟩ := List.mem_map.1 hy
        obtain ⟨hq1, hq2⟩ := List.mem_filter.1 hq
        rcases (hind q hq1).2 with hh | hh
        · have := ahead_listed hc _ hh h3
          rw [getD_lt (by rw [hsz]; exact hlt q (by rw [e]; simp [hq1])) false true] at this
          simp [this] at hq2
        · exact hh) (fun y hy => by
          obtain ⟨q, hq, rfl⟩ := List.mem_map.1 hy
          have hqB := (List.mem_filter.1 hq).1
          obtain ⟨B1, B2, e3⟩ := List.append_of_mem hqB
          exact (hat (A := A ++ (i', x) :: B1) (i := q.1) (x := q.2) (B := B2) (by rw [e, e3]; simp)).2.1) hs
      simp only [krun] at hfront
      obtain ⟨σ1, s1, s2⟩ := Option.bind_eq_some_iff.1 hfront
      rw [← List.map_append, ← hsplit'] at s2
      simp only [wpOp, ho]
      refine op_ok hX hE hok s1 h fun a' w' hr => ih _ (by simpa using hsz) ?_ ?_ ⟨σ3, s2, he.trans he3⟩ hr
      · intro k hk e' he'
        by_cases e1 : e' = i'
        · subst e1; exact hseti false
        · rw [hset e' e1]
          by_cases e2 : k = i'
          · subst e2; exact h3 e' he'
          · rw [hset k e2] at hk; exact hc k hk e' he'
      · rw [hsplit']
        rw [hsplit] at hf
        simp only [List.length_append, List.length_cons] at hf ⊢
        omega

def okC (P : Program) (N : Nat) : C → Code → Bool
  | .r is, .region _ ops draw => if draw then is.length == ops.size && okDraw P N ops ((List.range is.length).zip is) else okGs P N ops ops.toList is
  | .dr pm is, .region _ ops draw => draw && is.length == ops.size && pm.length == ops.size && okDraw P N ops (pm.zip is)
  | .pre l c, code => l.all ghost && okC P N c code
  | .post c l, code => l.all ghost && okC P N c code
  | .skip, .skip => true
  | .seq a b, .seq x y => okC P N a x && okC P N b y
  | .cond o a b, .cond t x y => okO t o && okC P N a x && okC P N b y
  | .blk id c, .block id' x => id == id' && okC P N c x
  | .loop c, .loop x => okC P N c x
  | .ex id, .exit id' => id == id'
  | .ret, .ret => true
  | _, _ => false

def Ex.exit : Ex → Exit
  | .n => .normal
  | .ex id => .exit id
  | .ret => .ret
/-- Left so, in this state. -/
def QE (N : Nat) (E : Ent) (q : Ex × St) (e : Exit) (a : Act) (w : World) : Prop := e = q.1.exit ∧ Rep N E q.2 a w

theorem exists_least (J : Nat → Prop) (h : ∃ m, J m) : ∃ m, J m ∧ ∀ k, J k → m ≤ k := by
  obtain ⟨m, hm⟩ := h
  induction m using Nat.strongRecOn with
  | _ m ih =>
    by_cases hk : ∃ k, k < m ∧ J k
    · obtain ⟨k, h1, h2⟩ := hk; exact ih k h1 h2
    · exact ⟨m, hm, fun k hJ => Nat.le_of_not_lt fun hlt => hk ⟨k, hlt, hJ⟩⟩
open Classical in
noncomputable def leastOf (J : Nat → Prop) : Nat := if h : ∃ m, J m then Classical.choose (exists_least J h) else 0
theorem leastOf_spec {J : Nat → Prop} (h : ∃ m, J m) : J (leastOf J) ∧ ∀ k, J k → leastOf J ≤ k := by
  unfold leastOf
  rw [dif_pos h]
  exact Classical.choose_spec (exists_least J h)

theorem wp_then_done {P : Program} {c : Code} {q : Ex × St} {K : Act → World → Prop} {Q : Exit → Act → World → Prop} (h : c.wp P (QE N E q) a w) (hn : q.1 = .n → ∀ a' w', Rep N E q.2 a' w' → K a' w')
    (he : q.1 ≠ .n → ∀ a' w', Rep N E q.2 a' w' → Q q.1.exit a' w') : c.wp P (Exit.then K Q) a w := by
  refine wp_mono h fun e a' w' ⟨h1, h2⟩ => ?_
  subst h1
  obtain ⟨e, σ⟩ := q
  cases e with
  | n => exact hn rfl a' w' h2
  | ex id => exact he (by simp) a' w' h2
  | ret => exact he (by simp) a' w' h2

theorem draw_all (hm : P.follows .mixedOrders = true) (hX : ∀ f as obs r, X f as obs = some r → Ctr P gl f as obs r) (hE : EntOK gl E) {id : Nat} {ops : Array Oper} {pm : List Nat} {is : List I} (hi : is.length = ops.size) (hp : pm.length = ops.size) (hd : okDraw P N ops (pm.zip is) = true)
    {Q : Exit → Act → World → Prop} (hQ : ∀ a' w', Rep N E σ' a' w' → Q .normal a' w') (s1 : krun X is σ = some σ') (h : Rep N E σ a w) : (Code.region id ops true).wp P Q a w := by
  refine wp_region_any hm ?_
  have hrem : remOf (pm.zip is) (Array.replicate ops.size false) = pm.zip is := by
    simp only [remOf]
    rw [List.filter_eq_self]
    intro q hq
    have hlt : q.1 < ops.size := by
      have hl := hd
      simp only [okDraw, Bool.and_eq_true] at hl
      obtain ⟨A, B, e⟩ := List.append_of_mem hq
      obtain ⟨⟨o, ho, _⟩, _⟩ := okDrawL_at hl.1 (i := q.1) (x := q.2) e
      rcases Nat.lt_or_ge q.1 ops.size with h | h
      · exact h
      · rw [Array.getElem?_eq_none h] at ho; cases ho
    simp [Array.getD_eq_getD_getElem?, hlt]
  refine draw_ok hX hE hd hQ ops.size _ (by simp) ?_ ?_ ⟨σ', ?_, Eqv.refl _⟩ ?_ (σ := σ)
  · intro i hi
    simp only [Array.getD_eq_getD_getElem?, Array.getElem?_replicate] at hi
    split at hi <;> simp at hi
  · rw [hrem]; simp; omega
  · rw [hrem, List.map_snd_zip (by omega)]; exact s1
  · obtain ⟨loc, So, Pd, h⟩ := h
    exact ⟨loc, So, Pd, h.below ⟨rfl, rfl, rfl, Nat.le_refl _, fun _ _ => rfl⟩⟩

theorem code_ok (hm : P.follows .mixedOrders = true) (hX : ∀ f as obs r, X f as obs = some r → Ctr P gl f as obs r) (hE : EntOK gl E) (k : Nat) : ∀ (c : C) (code : Code) {σ : St} {a : Act} {w : World} {q : Ex × St}, okC P N c code = true → den X k c σ = some q → Rep N E σ a w → code.wp P (QE N E q) a w := by
  intro c
  induction c with
  | r is =>
    intro code σ a w q hq hs h
    cases code with
    | region id ops draw =>
      simp only [okC] at hq
      simp only [den] at hs
      obtain ⟨σ1, s1, rfl⟩ := Option.map_eq_some_iff.1 hs
      have hQ : ∀ a' w', Rep N E σ1 a' w' → QE N E (goN σ1) .normal a' w' := fun a' w' hr => ⟨rfl, hr⟩
      cases draw with
      | false =>
        simp only [Bool.false_eq_true, if_false] at hq
        exact wp_region_list (list_ok hX hE hQ _ _ hq s1 h)
      | true =>
        simp only [if_true, Bool.and_eq_true, beq_iff_eq] at hq
        exact draw_all hm hX hE hq.1 (by simp [hq.1]) hq.2 hQ s1 h
    | _ => simp [okC] at hq
  | dr pm is =>
    intro code σ a w q hq hs h
    cases code with
    | region id ops draw =>
      simp only [okC, Bool.and_eq_true, beq_iff_eq] at hq
      obtain ⟨⟨⟨h0, h1⟩, h2⟩, h3⟩ := hq
      subst h0
      simp only [den] at hs
      obtain ⟨σ1, s1, rfl⟩ := Option.map_eq_some_iff.1 hs
      have hQ : ∀ a' w', Rep N E σ1 a' w' → QE N E (goN σ1) .normal a' w' := fun a' w' hr => ⟨rfl, hr⟩
      exact draw_all hm hX hE h1 h2 h3 hQ s1 h
    | _ => simp [okC] at hq
  | pre l c ih =>
    intro code σ a w q hq hs h
    simp only [okC, Bool.and_eq_true] at hq
    simp only [den] at hs
    obtain ⟨σ1, s1, s2⟩ := Option.bind_eq_some_iff.1 hs
    exact ih code hq.2 s2 (ghost_ok hq.1 s1 h)
  | post c l ih =>
    intro code σ a w q hq hs h
    simp only [okC, Bool.and_eq_true] at hq
    simp only [den] at hs
    obtain ⟨⟨e, σ1⟩, s1, s2⟩ := Option.bind_eq_some_iff.1 hs
    refine wp_mono (ih code hq.2 s1 h) fun x a' w' ⟨h1, h2⟩ => ?_
    subst h1
    cases e with
    | n =>
      simp only [andThen] at s2
      obtain ⟨σ2, s3, rfl⟩ := Option.map_eq_some_iff.1 s2
      exact ⟨rfl, ghost_ok hq.1 s3 h2⟩
    | ex id => simp only [andThen, Option.some.injEq] at s2; subst s2; exact ⟨rfl, h2⟩
    | ret => simp only [andThen, Option.some.injEq] at s2; subst s2; exact ⟨rfl, h2⟩
  | skip =>
    intro code σ a w q hq hs h
    cases code <;> simp [okC] at hq
    simp only [den, Option.some.injEq] at hs
    subst hs
    exact wp_skip ⟨rfl, h⟩
  | seq x y ihx ihy =>
    intro code σ a w q hq hs h
    cases code <;> simp [okC] at hq
    rename_i cx cy
    simp only [den] at hs
    obtain ⟨⟨e, σ1⟩, s1, s2⟩ := Option.bind_eq_some_iff.1 hs
    refine wp_seq (wp_then_done (ihx cx hq.1 s1 h) (fun hn a' w' hr => ?_) (fun hn a' w' hr => ?_))
    · dsimp only at hn; subst hn
      simp only [andThen] at s2
      exact ihy cy hq.2 s2 hr
    · have : q = (e, σ1) := by
        cases e with
        | n => exact absurd rfl hn
        | ex id => simpa only [andThen, Option.some.injEq, eq_comm] using s2
        | ret => simpa only [andThen, Option.some.injEq, eq_comm] using s2
      subst this
      exact ⟨rfl, hr⟩
  | cond o x y ihx ihy =>
    intro code σ a w q hq hs h
    cases code <;> simp [okC] at hq
    rename_i t cx cy
    obtain ⟨⟨h1, h2⟩, h3⟩ := hq
    have hv : ∃ loc So, ∃ fz : Nat → Prop, RegOK w fz loc So σ.objs (a.eval t) (σ.op o) := by obtain ⟨loc, So, Pd, h⟩ := h; exact ⟨_, _, _, h.op h1⟩
    simp only [den] at hs
    split at hs
    case h_2 => cases hs
    rename_i b hb
    rw [hb] at hv
    obtain ⟨_, _, _, hv⟩ := hv
    simp only [RegOK] at hv
    have hc : a.eval t = .bool b := by generalize a.eval t = v at hv; cases hv; rfl
    refine wp_cond hc ?_
    cases b with
    | true => simp only [if_true] at hs ⊢; exact ihx cx h2 hs h
    | false => simp only [Bool.false_eq_true, if_false] at hs ⊢; exact ihy cy h3 hs h
  | blk id c ih =>
    intro code σ a w q hq hs h
    cases code <;> simp [okC] at hq
    rename_i id' cx
    obtain ⟨rfl, hq⟩ := hq
    simp only [den] at hs
    obtain ⟨⟨e, σ1⟩, s1, rfl⟩ := Option.map_eq_some_iff.1 hs
    refine wp_block (wp_mono (ih cx hq s1 h) fun x a' w' ⟨h1, h2⟩ => ?_)
    subst h1
    cases e with
    | n => exact ⟨rfl, h2⟩
    | ret => exact ⟨rfl, h2⟩
    | ex id2 =>
      simp only [Ex.exit, Exit.inBlock]
      by_cases e : id2 = id
      · subst e; rw [if_pos rfl]; exact ⟨by simp [outOf, Ex.exit], by simpa [outOf] using h2⟩
      · rw [if_neg e]; exact ⟨by simp [outOf, Ex.exit, e], by simpa [outOf, e] using h2⟩
  | loop c ih =>
    intro code σ a w q hq hs h
    cases code <;> simp [okC] at hq
    rename_i cx
    simp only [den] at hs
    let J : Act → World → Nat → Prop := fun a w m => ∃ σm, Rep N E σm a w ∧ rounds (den X k c) m σm = some q
    refine wp_loop (fun a w => ∃ m, J a w m) (fun a w => leastOf (J a w)) ⟨k, σ, h, hs⟩ fun a' w' hI => ?_
    obtain ⟨⟨σm, hr, hrounds⟩, _⟩ := leastOf_spec hI
    generalize hmv : leastOf (J a' w') = m at hrounds
    cases m with
    | zero => simp [rounds] at hrounds
    | succ m =>
      simp only [rounds] at hrounds
      obtain ⟨⟨e, σ1⟩, s1, s2⟩ := Option.bind_eq_some_iff.1 hrounds
      refine wp_then_done (ih cx hq s1 hr) (fun hn a2 w2 hr2 => ?_) (fun hn a2 w2 hr2 => ?_)
      · dsimp only at hn; subst hn
        simp only [andThen] at s2
        have hJ : J a2 w2 m := ⟨σ1, hr2, s2⟩
        refine ⟨⟨m, hJ⟩, ?_⟩
        have := (leastOf_spec ⟨m, hJ⟩).2 m hJ
        show leastOf (J a2 w2) < _
        omega
      · have : q = (e, σ1) := by
          cases e with
          | n => exact absurd rfl hn
          | ex id => simpa only [andThen, Option.some.injEq, eq_comm] using s2
          | ret => simpa only [andThen, Option.some.injEq, eq_comm] using s2
        subst this
        exact ⟨rfl, hr2⟩
  | ex id =>
    intro code σ a w q hq hs h
    cases code <;> simp [okC] at hq
    subst hq
    simp only [den, Option.some.injEq] at hs
    subst hs
    exact wp_exit ⟨rfl, h⟩
  | ret =>
    intro code σ a w q hq hs h
    cases code <;> simp [okC] at hq
    simp only [den, Option.some.injEq] at hs
    subst hs
    exact wp_ret ⟨rfl, h⟩

end rep
end Go.Proofs.YtniakiefibpgmaaGreatDoorK
