/- Drawn regions, code, and functions: what is reckoned abstractly is what the function gives back. -/
import Derived.Test.YtmccpbabpnffcaaJ20
set_option linter.unusedVariables false
set_option linter.unusedSimpArgs false
namespace Go.Proofs.YtmccpbabpnffcaaK
open Go.RowKit

def edgesOf (ops : Array Oper) (i : Nat) : List Nat := match ops[i]? with | some o => (o.after.toList.filter (Region.binds .any)).map (·.on) | none => []
/-- Must j come ahead of i? -/
def aheadB (ops : Array Oper) : Nat → Nat → Nat → Bool
  | 0, _, _ => false
  | k + 1, j, i => (edgesOf ops i).any fun e => e == j || aheadB ops k j e
def okDraw (ops : Array Oper) (is : List I) : Bool :=
  (List.range ops.size).all fun i => (edgesOf ops i).all (fun e => decide (e < i)) &&
    (List.range i).all fun j => aheadB ops ops.size j i || (match is[j]?, is[i]? with | some x, some y => indep x y | _, _ => false)

theorem okIs_get {P : Program} {N : Nat} {ops : Array Oper} : ∀ {os : List Oper} {is : List I}, okIs P N ops os is = true → is.length = os.length ∧ ∀ (k : Nat) (o : Oper) (i : I), os[k]? = some o → is[k]? = some i → okI P N ops o i = true
  | [], [], _ => ⟨rfl, fun k o i h => by simp at h⟩
  | [], _ :: _, h => by simp [okIs] at h
  | _ :: _, [], h => by simp [okIs] at h
  | o :: os, i :: is, h => by
    simp only [okIs, Bool.and_eq_true] at h
    obtain ⟨h1, h2⟩ := okIs_get h.2
    refine ⟨by simp [h1], fun k o' i' ho hi => ?_⟩
    cases k with
    | zero => simp only [List.getElem?_cons_zero, Option.some.injEq] at ho hi; subst ho hi; exact h.1
    | succ k => exact h2 k o' i' (by simpa using ho) (by simpa using hi)

theorem ready_iff {ops : Array Oper} {listed : Array Bool} {i : Nat} : i ∈ Region.ready .any ops listed ↔ i < ops.size ∧ listed.getD i true = false ∧ ∀ e ∈ edgesOf ops i, listed.getD e false = true := by
  simp only [Region.ready, List.mem_filter, List.mem_range, Bool.and_eq_true, Bool.not_eq_true']
  constructor
  · rintro ⟨h1, h2, h3⟩
    refine ⟨h1, h2, fun e he => ?_⟩
    simp only [edgesOf, Array.getElem?_eq_getElem h1, List.mem_map, List.mem_filter] at he
    obtain ⟨x, ⟨hx, hb⟩, rfl⟩ := he
    rw [Array.getElem?_eq_getElem h1] at h3
    simp only [Option.map_some, Option.getD_some, Array.all_eq_true_iff_forall_mem, Bool.or_eq_true, Bool.not_eq_true'] at h3
    rcases h3 x (by simpa using hx) with q | q
    · rw [q] at hb; cases hb
    · exact q
  · rintro ⟨h1, h2, h3⟩
    refine ⟨h1, h2, ?_⟩
    rw [Array.getElem?_eq_getElem h1]
    simp only [Option.map_some, Option.getD_some, Array.all_eq_true_iff_forall_mem, Bool.or_eq_true, Bool.not_eq_true']
    intro x hx
    cases hb : Region.binds .any x with
    | false => exact .inl rfl
    | true =>
      refine .inr (h3 x.on ?_)
      simp only [edgesOf, Array.getElem?_eq_getElem h1, List.mem_map, List.mem_filter]
      exact ⟨x, ⟨by simpa using hx, hb⟩, rfl⟩

theorem range_split {i n : Nat} (h : i < n) : List.range n = List.range i ++ i :: List.range' (i + 1) (n - i - 1) := by
  apply List.ext_getElem?
  intro k
  by_cases h1 : k < i
  · rw [List.getElem?_append_left (by simpa using h1), List.getElem?_range (by omega), List.getElem?_range h1]
  · rw [List.getElem?_append_right (by simpa using h1)]
    simp only [List.length_range]
    rcases Nat.lt_or_ge k n with h2 | h2
    · rw [List.getElem?_range h2]
      obtain ⟨m, rfl⟩ : ∃ m, k = i + m := ⟨k - i, by omega⟩
      rw [Nat.add_sub_cancel_left]
      cases m with
      | zero => simp
      | succ m =>
        rw [List.getElem?_cons_succ, List.getElem?_range']
        · simp; omega
        · omega
    · rw [List.getElem?_eq_none (by simpa using h2), List.getElem?_eq_none (by simp; omega)]

section rep
variable {P : Program} {N : Nat} {E : Ent} {σ σ' : St} {a : Act} {w : World} {X : XF} {gl : Globs}

def closedL (ops : Array Oper) (listed : Array Bool) : Prop := ∀ i, listed.getD i false = true → ∀ e ∈ edgesOf ops i, listed.getD e false = true
theorem ahead_listed {ops : Array Oper} {listed : Array Bool} (hc : closedL ops listed) : ∀ (k : Nat) {j i : Nat}, aheadB ops k j i = true → (∀ e ∈ edgesOf ops i, listed.getD e false = true) → listed.getD j false = true
  | 0, _, _, h, _ => by simp [aheadB] at h
  | k + 1, j, i, h, he => by
    simp only [aheadB, List.any_eq_true, Bool.or_eq_true, beq_iff_eq] at h
    obtain ⟨e, h1, h2⟩ := h
    rcases h2 with h2 | h2
    · subst h2; exact he e h1
    · exact ahead_listed hc k h2 (hc e (he e h1))

def remOf (n : Nat) (listed : Array Bool) : List Nat := (List.range n).filter fun i => !listed.getD i true

/-- Whatever order is drawn. -/
theorem draw_ok (hX : ∀ f as obs r, X f as obs = some r → Ctr P gl f as obs r) (hE : EntOK gl E) {ops : Array Oper} {is : List I} (hq : okIs P N ops ops.toList is = true) (hd : okDraw ops is = true) {Q : Exit → Act → World → Prop} (hQ : ∀ a' w', Rep N E σ' a' w' → Q .normal a' w') :
    ∀ (fuel : Nat) (listed : Array Bool) {σ : St} {a : Act} {w : World}, listed.size = ops.size → closedL ops listed → (remOf ops.size listed).length ≤ fuel →
      krun X ((remOf ops.size listed).map fun i => is.getD i (.kill [])) σ = some σ' → Rep N E σ a w → wpAny P .any ops Q fuel listed a w := by
  obtain ⟨hlen, hget⟩ := okIs_get hq
  have hlen : is.length = ops.size := by simpa using hlen
  simp only [okDraw, List.all_eq_true, List.mem_range, Bool.and_eq_true, Bool.or_eq_true, decide_eq_true_eq] at hd
  have hempty : ∀ listed : Array Bool, Region.ready .any ops listed = [] → listed.size = ops.size → remOf ops.size listed = [] := by
    intro listed hr hsz
    cases hrem : remOf ops.size listed with
    | nil => rfl
    | cons i l =>
      exfalso
      have hmem : ∀ k, k < ops.size → listed.getD k true = false → i ≤ k := by
        intro k hk hl
        have hk' : k ∈ remOf ops.size listed := by
          simp only [remOf, List.mem_filter, List.mem_range, Bool.not_eq_true']
          exact ⟨hk, hl⟩
        have hsorted : (remOf ops.size listed).Pairwise (· < ·) := List.Pairwise.filter _ List.pairwise_lt_range
        rw [hrem] at hk' hsorted
        rcases List.mem_cons.1 hk' with e | e
        · omega
        · exact Nat.le_of_lt ((List.pairwise_cons.1 hsorted).1 k e)
      have hi : i ∈ remOf ops.size listed := by rw [hrem]; simp
      simp only [remOf, List.mem_filter, List.mem_range, Bool.not_eq_true'] at hi
      have : i ∈ Region.ready .any ops listed := by
        rw [ready_iff]
        refine ⟨hi.1, hi.2, fun e he => ?_⟩
        have hlt := (hd i hi.1).1 e he
        cases hl : listed.getD e false with
        | true => rfl
        | false =>
          have hlt2 : e < listed.size := by omega
          have : listed.getD e true = false := by
            simp only [Array.getD_eq_getD_getElem?, Array.getElem?_eq_getElem hlt2, Option.getD_some] at hl ⊢
            exact hl
          have := hmem e (by omega) this
          omega
      rw [hr] at this
      cases this
  intro fuel
  induction fuel with
  | zero =>
    intro listed σ a w hsz hc hf hs h
    have hrem : remOf ops.size listed = [] := List.eq_nil_of_length_eq_zero (by omega)
    refine ⟨?_, ?_⟩
    · cases hr : Region.ready .any ops listed with
      | nil => rfl
      | cons i l =>
        have : i ∈ Region.ready .any ops listed := by rw [hr]; simp
        rw [ready_iff] at this
        have : i ∈ remOf ops.size listed := by
          simp only [remOf, List.mem_filter, List.mem_range, Bool.not_eq_true']
          exact ⟨this.1, this.2.1⟩
        rw [hrem] at this; cases this
    · rw [hrem] at hs
      simp only [List.map_nil, krun, Option.some.injEq] at hs
      subst hs
      exact hQ a w h
  | succ fuel ih =>
    intro listed σ a w hsz hc hf hs h
    refine ⟨fun hr => ?_, fun i hi => ?_⟩
    · rw [hempty listed hr hsz] at hs
      simp only [List.map_nil, krun, Option.some.injEq] at hs
      subst hs
      exact hQ a w h
    · rw [ready_iff] at hi
      obtain ⟨h1, h2, h3⟩ := hi
      have hsplit : remOf ops.size listed = (List.range i).filter (fun i => !listed.getD i true) ++ i :: (List.range' (i + 1) (ops.size - i - 1)).filter (fun i => !listed.getD i true) := by
        simp only [remOf, range_split h1, List.filter_append]
        rw [List.filter_cons_of_pos (by simp [h2])]
      have hset : ∀ k, k ≠ i → (listed.setIfInBounds i true).getD k true = listed.getD k true := fun k hk => by
        simp only [Array.getD_eq_getD_getElem?, Array.getElem?_setIfInBounds]; rw [if_neg (by omega)]
      have hset' : ∀ k, k ≠ i → (listed.setIfInBounds i true).getD k false = listed.getD k false := fun k hk => by
        simp only [Array.getD_eq_getD_getElem?, Array.getElem?_setIfInBounds]; rw [if_neg (by omega)]
      have hseti : ∀ b, (listed.setIfInBounds i true).getD i b = true := fun b => by
        simp only [Array.getD_eq_getD_getElem?, Array.getElem?_setIfInBounds, if_true]; rw [if_pos (by omega)]; rfl
      have hsplit' : remOf ops.size (listed.setIfInBounds i true) = (List.range i).filter (fun i => !listed.getD i true) ++ (List.range' (i + 1) (ops.size - i - 1)).filter (fun i => !listed.getD i true) := by
        simp only [remOf, range_split h1, List.filter_append]
        rw [List.filter_cons_of_neg (by simp [hseti])]
        congr 1
        · exact List.filter_congr fun k hk => by rw [hset k (by have := List.mem_range.1 hk; omega)]
        · exact List.filter_congr fun k hk => by rw [hset k (by have := List.mem_range'_1.1 hk; omega)]
      rw [hsplit, List.map_append, List.map_cons] at hs
      have hi' : i < is.length := by omega
      have hfront := krun_front (i := is.getD i (.kill [])) (fun x hx => by
        simp only [List.mem_map, List.mem_filter, List.mem_range, Bool.not_eq_true'] at hx
        obtain ⟨j, ⟨hj1, hj2⟩, rfl⟩ := hx
        rcases (hd i h1).2 j hj1 with q | q
        · have := ahead_listed hc _ q h3
          have hlt : j < listed.size := by omega
          simp only [Array.getD_eq_getD_getElem?, Array.getElem?_eq_getElem hlt, Option.getD_some] at this hj2
          rw [this] at hj2; cases hj2
        · have hjl : j < is.length := by omega
          rw [List.getElem?_eq_getElem hjl, List.getElem?_eq_getElem hi'] at q
          simpa [List.getD_eq_getElem?_getD, List.getElem?_eq_getElem hjl, List.getElem?_eq_getElem hi'] using q) hs
      simp only [krun] at hfront
      obtain ⟨σ1, s1, s2⟩ := Option.bind_eq_some_iff.1 hfront
      rw [← List.map_append, ← hsplit'] at s2
      have ho : ops[i]? = some ops[i] := Array.getElem?_eq_getElem h1
      simp only [wpOp, ho]
      have hok : okI P N ops ops[i] (is.getD i (.kill [])) = true := by
        refine hget i _ _ (by simp) ?_
        rw [List.getD_eq_getElem?_getD, List.getElem?_eq_getElem hi']; rfl
      refine op_ok hX hE hok s1 h fun a' w' hr => ih _ (by simpa using hsz) ?_ ?_ s2 hr
      · intro k hk e he
        by_cases e1 : e = i
        · subst e1; exact hseti false
        · rw [hset' e e1]
          by_cases e2 : k = i
          · subst e2; exact h3 e he
          · rw [hset' k e2] at hk; exact hc k hk e he
      · rw [hsplit']
        rw [hsplit] at hf
        simp only [List.length_append, List.length_cons] at hf ⊢
        omega

def okC (P : Program) (N : Nat) : C → Code → Bool
  | .r is, .region _ ops draw => if draw then okIs P N ops ops.toList is && okDraw ops is else okGs P N ops ops.toList is
  | .pre l c, code => l.all ghost && okC P N c code
  | .post c l, code => l.all ghost && okC P N c code
  | .skip, .skip => true
  | .seq a b, .seq x y => okC P N a x && okC P N b y
  | .cond o a b, .cond t x y => okO t o && okC P N a x && okC P N b y
  | .blk id c, .block id' x => id == id' && okC P N c x
  | .loop c, .loop x => okC P N c x
  | .ex id, .exit id' => id == id'
  | .ret, .ret => true
  | _, _ => false

def Ex.exit : Ex → Exit
  | .n => .normal
  | .ex id => .exit id
  | .ret => .ret
/-- Left so, in this state. -/
def QE (N : Nat) (E : Ent) (q : Ex × St) (e : Exit) (a : Act) (w : World) : Prop := e = q.1.exit ∧ Rep N E q.2 a w

theorem exists_least (J : Nat → Prop) (h : ∃ m, J m) : ∃ m, J m ∧ ∀ k, J k → m ≤ k := by
  obtain ⟨m, hm⟩ := h
  induction m using Nat.strongRecOn with
  | _ m ih =>
    by_cases hk : ∃ k, k < m ∧ J k
    · obtain ⟨k, h1, h2⟩ := hk; exact ih k h1 h2
    · exact ⟨m, hm, fun k hJ => Nat.le_of_not_lt fun hlt => hk ⟨k, hlt, hJ⟩⟩
open Classical in
noncomputable def leastOf (J : Nat → Prop) : Nat := if h : ∃ m, J m then Classical.choose (exists_least J h) else 0
theorem leastOf_spec {J : Nat → Prop} (h : ∃ m, J m) : J (leastOf J) ∧ ∀ k, J k → leastOf J ≤ k := by
  unfold leastOf
  rw [dif_pos h]
  exact Classical.choose_spec (exists_least J h)

theorem wp_then_done {P : Program} {c : Code} {q : Ex × St} {K : Act → World → Prop} {Q : Exit → Act → World → Prop} (h : c.wp P (QE N E q) a w) (hn : q.1 = .n → ∀ a' w', Rep N E q.2 a' w' → K a' w')
    (he : q.1 ≠ .n → ∀ a' w', Rep N E q.2 a' w' → Q q.1.exit a' w') : c.wp P (Exit.then K Q) a w := by
  refine wp_mono h fun e a' w' ⟨h1, h2⟩ => ?_
  subst h1
  obtain ⟨e, σ⟩ := q
  cases e with
  | n => exact hn rfl a' w' h2
  | ex id => exact he (by simp) a' w' h2
  | ret => exact he (by simp) a' w' h2

theorem code_ok (hm : P.follows .mixedOrders = true) (hX : ∀ f as obs r, X f as obs = some r → Ctr P gl f as obs r) (hE : EntOK gl E) (k : Nat) : ∀ (c : C) (code : Code) {σ : St} {a : Act} {w : World} {q : Ex × St}, okC P N c code = true → den X k c σ = some q → Rep N E σ a w → code.wp P (QE N E q) a w := by
  intro c
  induction c with
  | r is =>
    intro code σ a w q hq hs h
    cases code with
    | region id ops draw =>
      simp only [okC] at hq
      simp only [den] at hs
      obtain ⟨σ1, s1, rfl⟩ := Option.map_eq_some_iff.1 hs
      have hQ : ∀ a' w', Rep N E σ1 a' w' → QE N E (goN σ1) .normal a' w' := fun a' w' hr => ⟨rfl, hr⟩
      cases draw with
      | false =>
        simp only [Bool.false_eq_true, if_false] at hq
        exact wp_region_list (list_ok hX hE hQ _ _ hq s1 h)
      | true =>
        simp only [if_true, Bool.and_eq_true] at hq
        have hd : okDraw ops is = true := hq.2
        refine wp_region_any hm ?_
        have hrem : remOf ops.size (Array.replicate ops.size false) = List.range ops.size := by
          simp only [remOf]
          rw [List.filter_eq_self]
          intro i hi
          have := List.mem_range.1 hi
          simp [Array.getD_eq_getD_getElem?, this]
        have hall : (List.range ops.size).map (fun i => is.getD i (.kill [])) = is := by
          have hlen : is.length = ops.size := by simpa using (okIs_get hq.1).1
          apply List.ext_getElem?
          intro j
          rw [List.getElem?_map]
          rcases Nat.lt_or_ge j is.length with q | q
          · rw [List.getElem?_range (by omega), List.getElem?_eq_getElem q]
            simp [List.getD_eq_getElem?_getD, List.getElem?_eq_getElem q]
          · rw [List.getElem?_eq_none (by simp; omega), List.getElem?_eq_none q]; rfl
        refine draw_ok hX hE hq.1 hd hQ ops.size _ (by simp) ?_ ?_ ?_ ?_ (σ := σ)
        · intro i hi
          simp only [Array.getD_eq_getD_getElem?, Array.getElem?_replicate] at hi
          split at hi <;> simp at hi
        · rw [hrem]; simp
        · rw [hrem, hall]; exact s1
        · obtain ⟨loc, So, Pd, h⟩ := h
          exact ⟨loc, So, Pd, h.below ⟨rfl, rfl, rfl, Nat.le_refl _, fun _ _ => rfl⟩⟩
    | _ => simp [okC] at hq
  | pre l c ih =>
    intro code σ a w q hq hs h
    simp only [okC, Bool.and_eq_true] at hq
    simp only [den] at hs
    obtain ⟨σ1, s1, s2⟩ := Option.bind_eq_some_iff.1 hs
    exact ih code hq.2 s2 (ghost_ok hq.1 s1 h)
  | post c l ih =>
    intro code σ a w q hq hs h
    simp only [okC, Bool.and_eq_true] at hq
    simp only [den] at hs
    obtain ⟨⟨e, σ1⟩, s1, s2⟩ := Option.bind_eq_some_iff.1 hs
    refine wp_mono (ih code hq.2 s1 h) fun x a' w' ⟨h1, h2⟩ => ?_
    subst h1
    cases e with
    | n =>
      simp only [andThen] at s2
      obtain ⟨σ2, s3, rfl⟩ := Option.map_eq_some_iff.1 s2
      exact ⟨rfl, ghost_ok hq.1 s3 h2⟩
    | ex id => simp only [andThen, Option.some.injEq] at s2; subst s2; exact ⟨rfl, h2⟩
    | ret => simp only [andThen, Option.some.injEq] at s2; subst s2; exact ⟨rfl, h2⟩
  | skip =>
    intro code σ a w q hq hs h
    cases code <;> simp [okC] at hq
    simp only [den, Option.some.injEq] at hs
    subst hs
    exact wp_skip ⟨rfl, h⟩
  | seq x y ihx ihy =>
    intro code σ a w q hq hs h
    cases code <;> simp [okC] at hq
    rename_i cx cy
    simp only [den] at hs
    obtain ⟨⟨e, σ1⟩, s1, s2⟩ := Option.bind_eq_some_iff.1 hs
    refine wp_seq (wp_then_done (ihx cx hq.1 s1 h) (fun hn a' w' hr => ?_) (fun hn a' w' hr => ?_))
    · dsimp only at hn; subst hn
      simp only [andThen] at s2
      exact ihy cy hq.2 s2 hr
    · have : q = (e, σ1) := by
        cases e with
        | n => exact absurd rfl hn
        | ex id => simpa only [andThen, Option.some.injEq, eq_comm] using s2
        | ret => simpa only [andThen, Option.some.injEq, eq_comm] using s2
      subst this
      exact ⟨rfl, hr⟩
  | cond o x y ihx ihy =>
    intro code σ a w q hq hs h
    cases code <;> simp [okC] at hq
    rename_i t cx cy
    obtain ⟨⟨h1, h2⟩, h3⟩ := hq
    have hv : ∃ loc So, ∃ fz : Nat → Prop, RegOK w fz loc So σ.objs (a.eval t) (σ.op o) := by obtain ⟨loc, So, Pd, h⟩ := h; exact ⟨_, _, _, h.op h1⟩
    simp only [den] at hs
    split at hs
    case h_2 => cases hs
    rename_i b hb
    rw [hb] at hv
    obtain ⟨_, _, _, hv⟩ := hv
    simp only [RegOK] at hv
    have hc : a.eval t = .bool b := by generalize a.eval t = v at hv; cases hv; rfl
    refine wp_cond hc ?_
    cases b with
    | true => simp only [if_true] at hs ⊢; exact ihx cx h2 hs h
    | false => simp only [Bool.false_eq_true, if_false] at hs ⊢; exact ihy cy h3 hs h
  | blk id c ih =>
    intro code σ a w q hq hs h
    cases code <;> simp [okC] at hq
    rename_i id' cx
    obtain ⟨rfl, hq⟩ := hq
    simp only [den] at hs
    obtain ⟨⟨e, σ1⟩, s1, rfl⟩ := Option.map_eq_some_iff.1 hs
    refine wp_block (wp_mono (ih cx hq s1 h) fun x a' w' ⟨h1, h2⟩ => ?_)
    subst h1
    cases e with
    | n => exact ⟨rfl, h2⟩
    | ret => exact ⟨rfl, h2⟩
    | ex id2 =>
      simp only [Ex.exit, Exit.inBlock]
      by_cases e : id2 = id
      · subst e; rw [if_pos rfl]; exact ⟨by simp [outOf, Ex.exit], by simpa [outOf] using h2⟩
      · rw [if_neg e]; exact ⟨by simp [outOf, Ex.exit, e], by simpa [outOf, e] using h2⟩
  | loop c ih =>
    intro code σ a w q hq hs h
    cases code <;> simp [okC] at hq
    rename_i cx
    simp only [den] at hs
    let J : Act → World → Nat → Prop := fun a w m => ∃ σm, Rep N E σm a w ∧ rounds (den X k c) m σm = some q
    refine wp_loop (fun a w => ∃ m, J a w m) (fun a w => leastOf (J a w)) ⟨k, σ, h, hs⟩ fun a' w' hI => ?_
    obtain ⟨⟨σm, hr, hrounds⟩, _⟩ := leastOf_spec hI
    generalize hmv : leastOf (J a' w') = m at hrounds
    cases m with
    | zero => simp [rounds] at hrounds
    | succ m =>
      simp only [rounds] at hrounds
      obtain ⟨⟨e, σ1⟩, s1, s2⟩ := Option.bind_eq_some_iff.1 hrounds
      refine wp_then_done (ih cx hq s1 hr) (fun hn a2 w2 hr2 => ?_) (fun hn a2 w2 hr2 => ?_)
      · dsimp only at hn; subst hn
        simp only [andThen] at s2
        have hJ : J a2 w2 m := ⟨σ1, hr2, s2⟩
        refine ⟨⟨m, hJ⟩, ?_⟩
        have := (leastOf_spec ⟨m, hJ⟩).2 m hJ
        show leastOf (J a2 w2) < _
        omega
      · have : q = (e, σ1) := by
          cases e with
          | n => exact absurd rfl hn
          | ex id => simpa only [andThen, Option.some.injEq, eq_comm] using s2
          | ret => simpa only [andThen, Option.some.injEq, eq_comm] using s2
        subst this
        exact ⟨rfl, hr2⟩
  | ex id =>
    intro code σ a w q hq hs h
    cases code <;> simp [okC] at hq
    subst hq
    simp only [den, Option.some.injEq] at hs
    subst hs
    exact wp_exit ⟨rfl, h⟩
  | ret =>
    intro code σ a w q hq hs h
    cases code <;> simp [okC] at hq
    simp only [den, Option.some.injEq] at hs
    subst hs
    exact wp_ret ⟨rfl, h⟩

end rep
end Go.Proofs.YtmccpbabpnffcaaK
