/- From a row's arguments, read as data, to what a function is handed; and back from its answer to the row. -/
import Derived.Test.YtniakiefibpgmaaGreatDoorJ23
import Derived.ProofKit
set_option linter.unusedVariables false
set_option linter.unusedSimpArgs false
namespace Go.Proofs.YtniakiefibpgmaaGreatDoorK
open Go.ChangeShapes Go.WideShapes Go.ChangeAt Go.RowKit

mutual
/-- What a tree's values are bounded by. -/
def OkN : NodeT → Prop
  | .mk a b c k => a.length ≤ maxLen ∧ b.length ≤ maxLen ∧ c.length ≤ maxLen ∧ k.length ≤ maxLen ∧ OkNs k
def OkNs : List NodeT → Prop
  | [] => True
  | n :: l => OkN n ∧ OkNs l
end
theorem OkNs_mem : ∀ {l : List NodeT}, (∀ n ∈ l, OkN n) → OkNs l
  | [], _ => by simp only [OkNs]
  | n :: l, h => by simp only [OkNs]; exact ⟨h n (by simp), OkNs_mem (fun m hm => h m (by simp [hm]))⟩
theorem OkNs.of_mem : ∀ {l : List NodeT}, OkNs l → ∀ n ∈ l, OkN n
  | [], _, n, h => by simp at h
  | a :: l, h, n, hn => by
    simp only [OkNs] at h
    rcases List.mem_cons.1 hn with e | e
    · subst e; exact h.1
    · exact h.2.of_mem n e
/-- What the values of a type are bounded by. -/
def OkT : (t : T) → t.den → Prop
  | .int k, n => (Lit.int k n).wf = true
  | .u8, _ => True
  | .bool, _ => True
  | .str, s => s.length ≤ maxLen
  | .sl t, l => l.length ≤ maxLen ∧ ∀ x ∈ l, OkT t x
  | .pr a b, x => OkT a x.1 ∧ OkT b x.2
  | .node, n => OkN n

mutual
/-- The translation's type is this one. -/
def okT (P : Program) : Nat → TypeId → T → Bool
  | 0, _, _ => false
  | k + 1, t, ts => match P.underlying t with
    | some .bool => ts == .bool
    | some (.int q) => (match ts with | .int q' => q == q' && q != .u8 | .u8 => q == .u8 | _ => false)
    | some .string => ts == .str
    | some (.slice e) => (match ts with | .sl es => P.cellsOf e == es.w && decide (0 < es.w) && okT P k e es | _ => false)
    | some (.struct fs) => P.cellsOf t == ts.w && (if ts == .node then okNode P t fs.toList else okFs P k 0 fs.toList ts)
    | _ => false
def okFs (P : Program) : Nat → Nat → List Field → T → Bool
  | 0, _, _, _ => false
  | k + 1, off, [f], ts => f.offset == off && P.cellsOf f.type == ts.w && okT P k f.type ts
  | k + 1, off, f :: fs, .pr a b => f.offset == off && P.cellsOf f.type == a.w && okT P k f.type a && okFs P k (off + a.w) fs b
  | _, _, _, _ => false
/-- A node of a tree. -/
def okNode (P : Program) (t : TypeId) : List Field → Bool
  | [a, b, c, d] => a.offset == 0 && b.offset == 1 && c.offset == 2 && d.offset == 3 && P.cellsOf a.type == 1 && P.cellsOf b.type == 1 && P.cellsOf c.type == 1 && P.cellsOf d.type == 1 &&
      isStr P a.type && isStr P b.type && isStr P c.type && (match P.underlying d.type with | some (.slice e) => e == t && P.cellsOf t == 4 | _ => false)
  | _ => false
def isStr (P : Program) (t : TypeId) : Bool := match P.underlying t with | some .string => true | _ => false
end

theorem list_of {α : Type} {Q : Nat → α → Prop} : ∀ (n : Nat), (∀ i, i < n → ∃ x, Q i x) → ∃ l : List α, l.length = n ∧ ∀ (i : Nat) (x : α), l[i]? = some x → Q i x
  | 0, _ => ⟨[], rfl, fun i x h => by simp at h⟩
  | n + 1, h => by
    obtain ⟨l, h1, h2⟩ := list_of n (fun i hi => h i (by omega))
    obtain ⟨x, hx⟩ := h n (by omega)
    refine ⟨l ++ [x], by simp [h1], fun i y hy => ?_⟩
    rcases Nat.lt_or_ge i n with q | q
    · rw [List.getElem?_append_left (by omega)] at hy; exact h2 i y hy
    · rw [List.getElem?_append_right (by omega), h1] at hy
      have : i - n = 0 := by
        have := (List.getElem?_eq_some_iff.1 hy).1
        simp at this; omega
      rw [this] at hy
      have e : x = y := by simpa using hy
      have e2 : i = n := by omega
      subst e e2; exact hx

section
variable {H : Type} {enc : TypeId × Value → H} {P : Program} {w : World} {base : Nat} {spare : Nat → Bool} {held : Bool}

/-- Cells that read as these data. -/
def RdL (w : World) (cs : List Value) (ds : List D) : Prop := ds.length = cs.length ∧ ∀ (j : Nat) (v : Value) (x : D), cs[j]? = some v → ds[j]? = some x → Rd w (Old w) v x
theorem RdL.one {v : Value} {x : D} (h : Rd w (Old w) v x) : RdL w [v] [x] := ⟨rfl, fun j v' x' h1 h2 => by
  cases j with
  | zero => simp at h1 h2; subst h1 h2; exact h
  | succ j => simp at h1⟩
theorem RdL.append {cs cs' : List Value} {ds ds' : List D} (h : RdL w cs ds) (h' : RdL w cs' ds') : RdL w (cs ++ cs') (ds ++ ds') := by
  refine ⟨by simp [h.1, h'.1], fun j v x h1 h2 => ?_⟩
  rcases Nat.lt_or_ge j cs.length with q | q
  · rw [List.getElem?_append_left q] at h1
    rw [List.getElem?_append_left (by have := h.1; omega)] at h2
    exact h.2 j v x h1 h2
  · rw [List.getElem?_append_right q] at h1
    rw [List.getElem?_append_right (by have := h.1; omega), h.1] at h2
    exact h'.2 _ v x h1 h2
theorem RdL.regs {cs : List Value} {ds : List D} (h : RdL w cs ds) : RegsOK w (Old w) (fun _ => none) (fun _ _ => False) [] cs (ds.map AV.d) := by
  obtain ⟨hl, h⟩ := h
  induction cs generalizing ds with
  | nil => have : ds = [] := List.eq_nil_of_length_eq_zero (by simpa using hl); subst this; simp only [List.map_nil, RegsOK]
  | cons v cs ih =>
    cases ds with
    | nil => simp at hl
    | cons d ds =>
      simp only [List.map_cons, RegsOK, RegOK]
      exact ⟨h 0 v d rfl rfl, ih (by simpa using hl) (fun j v' x h1 h2 => h (j + 1) v' x (by simpa using h1) (by simpa using h2))⟩

theorem block_lt {a : Addr} {v : Value} (h : w.cell? a = some v) : a.block < w.heap.size := by
  rcases Nat.lt_or_ge a.block w.heap.size with q | q
  · exact q
  · exfalso
    have hn : w.heap[a.block]? = none := by simp [q]
    unfold World.cell? at h
    rw [hn] at h
    simp at h

/-- A slice whose rows read so. -/
theorem slice_rd {es : T} (hpos : 0 < es.w) {a : Addr} {len cap : Nat} (hle : len ≤ cap)
    (hrow : ∀ i, i < len → ∃ d : es.den, ∃ cs : List Value, cs.length = es.w ∧ (∀ j, j < es.w → w.cell? ((a.add (i * es.w)).add j) = cs[j]?) ∧ RdL w cs (cellsT es d) ∧ OkT es d) :
    ∃ l : List es.den, l.length = len ∧ Rd w (Old w) (.slice (some a) len cap) (.sl es l) ∧ ∀ x ∈ l, OkT es x := by
  obtain ⟨rows, hr1, hr2⟩ := list_of len hrow
  refine ⟨rows, hr1, ?_, fun r hr => ?_⟩
  · rcases Nat.eq_zero_or_pos len with z | z
    · have : rows = [] := List.eq_nil_of_length_eq_zero (by omega)
      subst z this
      exact .nil _ _ _
    · obtain ⟨ds0, cs0, h3, h4, _, _⟩ := hrow 0 z
      have hc0 := h4 0 hpos
      rw [List.getElem?_eq_getElem (by omega)] at hc0
      have hspot := World.cell?_spot hc0
      obtain ⟨b, off, spot⟩ := a
      have hsp : spot = none := by
        simp only [Addr.add] at hspot
        split at hspot <;> simp_all
      subst hsp
      have hb : b < w.heap.size := by
        have := block_lt hc0
        simp only [add_plain] at this
        exact this
      have hchoose : ∀ i j : Nat, ∃ v : Value, ∀ (x : es.den) (d : D), rows[i]? = some x → (cellsT es x)[j]? = some d → w.cell? ⟨b, off + i * es.w + j, none⟩ = some v ∧ Rd w (Old w) v d := fun i j => by
        cases hri : rows[i]? with
        | none => exact ⟨default, fun cs d h => by cases h⟩
        | some x =>
          cases hdj : (cellsT es x)[j]? with
          | none => exact ⟨default, fun cs d h h' => by obtain rfl := Option.some.inj h; rw [hdj] at h'; cases h'⟩
          | some d =>
            obtain ⟨cs, k1, k2, k3, k4⟩ := hr2 i x hri
            have hj : j < es.w := cells_lt hdj
            have hcj := k2 j hj
            rw [List.getElem?_eq_getElem (by omega)] at hcj
            refine ⟨cs[j], fun cs' d' h h' => ?_⟩
            obtain rfl := Option.some.inj h
            rw [hdj] at h'
            obtain rfl := Option.some.inj h'
            refine ⟨?_, k3.2 j _ _ (List.getElem?_eq_getElem (by omega)) hdj⟩
            simpa only [add_plain] using hcj
      let vs : Nat → Nat → Value := fun i j => Classical.choose (hchoose i j)
      rw [← hr1]
      refine .sl b off cap es rows vs hb (by omega) (fun i x j d hi hj => ?_) (fun i x j d hi hj => ?_)
      · exact (Classical.choose_spec (hchoose i j) x d hi hj).1
      · exact (Classical.choose_spec (hchoose i j) x d hi hj).2
  · obtain ⟨i, hi⟩ := List.getElem?_of_mem hr
    obtain ⟨_, _, _, _, k4⟩ := hr2 i r hi
    exact k4

theorem str_rd {fuel : Nat} {t : TypeId} {cs : List Value} {x : DataW H × List MemPlace} (ht : isStr P t = true) (h : DataW.trod enc P w base spare held fuel t cs = some x) : ∃ l : List UInt8, RdL w cs [.s l] ∧ l.length ≤ maxLen := by
  unfold isStr at ht
  split at ht
  case h_2 => cases ht
  rename_i ht2
  obtain ⟨s, rfl, hx, hs⟩ := DataW.trod_string ht2 h
  have e : (Value.string s) = strV s.data.toList := by simp [strV]
  refine ⟨s.data.toList, by rw [e]; exact RdL.one (.s _), ?_⟩
  rw [Array.length_toList]
  exact hs

theorem trod_rd : ∀ (fuel : Nat), (∀ (t : TypeId) (cs : List Value) (x : DataW H × List MemPlace) (ts : T) (k : Nat), DataW.trod enc P w base spare held fuel t cs = some x → okT P k t ts = true → ∃ d : ts.den, RdL w cs (cellsT ts d) ∧ OkT ts d) := by
  intro fuel
  induction fuel using Nat.strongRecOn with
  | _ fuel ih0 =>
  cases fuel with
  | zero => intro t cs x cts k h; simp [DataW.trod] at h
  | succ fuel =>
    have ih := ih0 fuel (Nat.lt_succ_self _)
    intro t cs x ts k h hq
    have ihF : ∀ (k : Nat) (fs : List Field) (off : Nat) (ts : T) (cs : List Value), okFs P k off fs ts = true → cs.length = off + ts.w →
        (∀ (i : Nat) (f : Field), fs[i]? = some f → ∃ x, DataW.trod enc P w base spare held fuel f.type ((cs.drop f.offset).take (P.cellsOf f.type)) = some x) → ∃ d : ts.den, RdL w (cs.drop off) (cellsT ts d) ∧ OkT ts d := by
      intro k
      induction k with
      | zero => intro fs off cts cs hq; simp [okFs] at hq
      | succ k ihk =>
        intro fs off ts cs hq hlen hf
        match fs, ts, hq with
        | [], _, hq => simp [okFs] at hq
        | [f], ts, hq =>
          have hq' : (f.offset == off && P.cellsOf f.type == ts.w && okT P k f.type ts) = true := by cases ts <;> simpa only [okFs] using hq
          simp only [Bool.and_eq_true, beq_iff_eq] at hq'
          obtain ⟨⟨h1, h2⟩, h3⟩ := hq'
          obtain ⟨x, hx⟩ := hf 0 f (by simp)
          rw [h1, h2] at hx
          rw [List.take_of_length_le (by simp; omega)] at hx
          exact ih _ _ _ _ _ hx h3
        | f :: g :: fs, .pr a b, hq =>
          simp only [okFs, Bool.and_eq_true, beq_iff_eq] at hq
          obtain ⟨⟨⟨h1, h2⟩, h3⟩, h4⟩ := hq
          obtain ⟨x, hx⟩ := hf 0 f (by simp)
          rw [h1, h2] at hx
          obtain ⟨d1, r1, t1⟩ := ih _ _ _ _ _ hx h3
          simp only [T.w] at hlen
          obtain ⟨d2, r2, t2⟩ := ihk (g :: fs) (off + a.w) b cs h4 (by omega) (fun i g' hg => hf (i + 1) g' (by simpa using hg))
          have e : cs.drop off = (cs.drop off).take a.w ++ cs.drop (off + a.w) := by
            rw [← List.drop_drop, List.take_append_drop]
          exact ⟨(d1, d2), by rw [e]; exact r1.append r2, t1, t2⟩
        | _ :: _ :: _, .int _, hq => simp [okFs] at hq
        | _ :: _ :: _, .u8, hq => simp [okFs] at hq
        | _ :: _ :: _, .bool, hq => simp [okFs] at hq
        | _ :: _ :: _, .str, hq => simp [okFs] at hq
        | _ :: _ :: _, .sl _, hq => simp [okFs] at hq
        | _ :: _ :: _, .node, hq => simp [okFs] at hq
    have ihS : ∀ (m : Nat), m ≤ fuel → ∀ (t e : TypeId) (es : T) (k : Nat) (cs : List Value) (x : DataW H × List MemPlace), P.underlying t = some (.slice e) → P.cellsOf e = es.w → 0 < es.w → (∀ n (_ : n < m) (cs : List Value) (x : DataW H × List MemPlace), DataW.trod enc P w base spare held n e cs = some x → ∃ d : es.den, RdL w cs (cellsT es d) ∧ OkT es d) →
        DataW.trod enc P w base spare held m t cs = some x → ∃ l : List es.den, RdL w cs [.sl es l] ∧ OkT (.sl es) l := by
      intro m hm t e es k cs x ht q1 q2 ihe h
      rcases DataW.trod_slice ht h with ⟨rfl, _⟩ | ⟨a, len, cap, elems, rest, n, hn, rfl, _, _, hle, hmax, hlen, hel, _⟩
      · exact ⟨[], RdL.one (.nil _ _ _), by simp [OkT]⟩
      · have hrow : ∀ i, i < len → ∃ d : es.den, ∃ cs : List Value, cs.length = es.w ∧ (∀ j, j < es.w → w.cell? ((a.add (i * es.w)).add j) = cs[j]?) ∧ RdL w cs (cellsT es d) ∧ OkT es d := fun i hi => by
          have hx := hel i hi
          rw [List.getElem?_eq_getElem (by omega)] at hx
          obtain ⟨cs, h1, h2⟩ := Option.bind_eq_some_iff.1 hx
          obtain ⟨_, h3, h4⟩ := World.cells?_some h1
          obtain ⟨d, r, t⟩ := ihe _ (by omega) _ _ h2
          rw [q1] at h3 h4
          exact ⟨d, cs, h3, h4, r, t⟩
        obtain ⟨l, l1, l2, l3⟩ := slice_rd q2 (by omega) hrow
        exact ⟨l, RdL.one l2, by simp only [OkT]; exact ⟨by omega, l3⟩⟩
    cases k with
    | zero => simp [okT] at hq
    | succ k =>
      simp only [okT] at hq
      split at hq
      · rename_i ht
        simp only [beq_iff_eq] at hq
        subst hq
        obtain ⟨b, rfl, rfl⟩ := DataW.trod_bool ht h
        exact ⟨b, RdL.one (.b b), by simp [OkT]⟩
      · rename_i q ht
        obtain ⟨n, rfl, hx, hw⟩ := DataW.trod_int ht h
        split at hq
        · simp only [Bool.and_eq_true, beq_iff_eq] at hq
          obtain ⟨rfl, _⟩ := hq
          exact ⟨n, RdL.one (.i _ n), by simp only [OkT]; exact hw⟩
        · simp only [beq_iff_eq] at hq
          subst hq
          have hr : 0 ≤ n ∧ n ≤ 255 := by
            simp [Lit.wf, IntKind.min, IntKind.max, IntKind.signed, IntKind.bits] at hw
            omega
          refine ⟨UInt8.ofNat n.toNat, ?_, by simp only [OkT]⟩
          have e : (Value.int .u8 n) = .int .u8 ((UInt8.ofNat n.toNat).toNat) := by
            congr 1
            simp only [UInt8.toNat_ofNat']
            omega
          rw [e]
          exact RdL.one (.u _)
        · cases hq
      · rename_i ht
        simp only [beq_iff_eq] at hq
        subst hq
        obtain ⟨l, h1, h2⟩ := str_rd (by simp [isStr, ht]) h
        exact ⟨l, h1, by simp only [OkT]; exact h2⟩
      · rename_i e ht
        split at hq
        case h_2 => cases hq
        rename_i es
        simp only [Bool.and_eq_true, beq_iff_eq, decide_eq_true_eq] at hq
        obtain ⟨⟨q1, q2⟩, q3⟩ := hq
        rcases DataW.trod_slice ht h with ⟨rfl, _⟩ | ⟨a, len, cap, elems, rest, n, hn, rfl, _, _, hle, hmax, hlen, hel, _⟩
        · exact ⟨[], RdL.one (.nil _ _ _), by simp [OkT]⟩
        · have hn : fuel = n := by omega
          subst hn
          have hrow : ∀ i, i < len → ∃ d : es.den, ∃ cs : List Value, cs.length = es.w ∧ (∀ j, j < es.w → w.cell? ((a.add (i * es.w)).add j) = cs[j]?) ∧ RdL w cs (cellsT es d) ∧ OkT es d := fun i hi => by
            have hx := hel i hi
            rw [List.getElem?_eq_getElem (by omega)] at hx
            obtain ⟨cs, h1, h2⟩ := Option.bind_eq_some_iff.1 hx
            obtain ⟨_, h3, h4⟩ := World.cells?_some h1
            obtain ⟨d, r, t⟩ := ih _ _ _ _ _ h2 q3
            rw [q1] at h3 h4
            exact ⟨d, cs, h3, h4, r, t⟩
          obtain ⟨l, l1, l2, l3⟩ := slice_rd q2 (by omega) hrow
          exact ⟨l, RdL.one l2, by simp only [OkT]; exact ⟨by omega, l3⟩⟩
      · rename_i fs ht
        simp only [Bool.and_eq_true, beq_iff_eq] at hq
        obtain ⟨xs, n, hn, _, hlen, hxs, hf⟩ := DataW.trod_struct ht h
        have hn : fuel = n := by omega
        subst hn
        have hfs : ∀ (i : Nat) (f : Field), fs.toList[i]? = some f → ∃ x, DataW.trod enc P w base spare held fuel f.type ((cs.drop f.offset).take (P.cellsOf f.type)) = some x := fun i f hi => by
          have hi : fs[i]? = some f := by simpa using hi
          have hlt : i < xs.length := by have := (Array.getElem?_eq_some_iff.1 hi).1; omega
          exact ⟨xs[i], by rw [hf i f hi, List.getElem?_eq_getElem hlt]⟩
        obtain ⟨hw, hq⟩ := hq
        split at hq
        · rename_i e
          subst e
          match hfl : fs.toList, hq with
          | [fa, fb, fc, fd], hq =>
            simp only [okNode, Bool.and_eq_true, beq_iff_eq] at hq
            obtain ⟨⟨⟨⟨⟨⟨⟨⟨⟨⟨⟨o0, o1⟩, o2⟩, o3⟩, c0⟩, c1⟩, c2⟩, c3⟩, s0⟩, s1⟩, s2⟩, hd⟩ := hq
            split at hd
            case h_2 => cases hd
            rename_i e ht3
            simp only [Bool.and_eq_true, beq_iff_eq] at hd
            obtain ⟨rfl, hw4⟩ := hd
            rw [hfl] at hfs
            obtain ⟨x0, y0⟩ := hfs 0 fa rfl
            obtain ⟨x1, y1⟩ := hfs 1 fb rfl
            obtain ⟨x2, y2⟩ := hfs 2 fc rfl
            obtain ⟨x3, y3⟩ := hfs 3 fd rfl
            rw [o0, c0] at y0
            rw [o1, c1] at y1
            rw [o2, c2] at y2
            rw [o3, c3] at y3
            obtain ⟨l0, r0, m0⟩ := str_rd s0 y0
            obtain ⟨l1, r1, m1⟩ := str_rd s1 y1
            obtain ⟨l2, r2, m2⟩ := str_rd s2 y2
            obtain ⟨l3, r3, m3⟩ := ihS fuel (Nat.le_refl _) fd.type e .node k _ _ ht3 hw4 (by decide) (fun n hn cs' x' hx' => by
              exact ih0 n (by omega) e cs' x' .node (k + 1) hx' (by
                simp only [okT, ht, hw, beq_self_eq_true, Bool.true_and, if_true, hfl, okNode, o0, o1, o2, o3, c0, c1, c2, c3, s0, s1, s2, ht3]; rfl)) y3
            refine ⟨.mk l0 l1 l2 l3, ?_, ?_⟩
            · have hc : cs.length = 4 := by rw [hlen, hw]; rfl
              match cs, hc with
              | [v0, v1, v2, v3], _ => exact (r0.append r1).append (r2.append r3)
            · simp only [OkT] at m3
              simp only [OkT, OkN]
              exact ⟨m0, m1, m2, m3.1, OkNs_mem m3.2⟩
          | [], hq => simp [okNode] at hq
          | [_], hq => simp [okNode] at hq
          | [_, _], hq => simp [okNode] at hq
          | [_, _, _], hq => simp [okNode] at hq
          | _ :: _ :: _ :: _ :: _ :: _, hq => simp [okNode] at hq
        · have := ihF k fs.toList 0 ts cs hq (by omega) hfs
          simpa using this
      · cases hq

/-- An argument of a struct's type. -/
theorem arg_struct {r : Reach} {b0 : Nat} {t : TypeId} {fs : Array Field} (ht : P.underlying t = some (.struct fs)) {v : Value} {d : DataW H} {ps : List MemPlace} (hval : Value.okWide P w r b0 t v) (h : DataW.Trod enc P w base spare held t v d ps) {ts : T} {k : Nat} (hq : okT P k t ts = true) :
    ∃ d : ts.den, OkT ts d ∧ RegOK w (Old w) (fun _ => none) (fun _ _ => False) [] v (.agg ((cellsT ts d).map AV.d)) := by
  simp only [Value.okWide, ht] at hval
  obtain ⟨cs, rfl, _⟩ := hval
  obtain ⟨fuel, hf⟩ := h
  obtain ⟨ds, h1, h2⟩ := trod_rd fuel t _ _ ts k hf hq
  refine ⟨ds, h2, ?_⟩
  simp only [RegOK]
  exact ⟨cs.toList, by simp, h1.regs⟩
/-- An argument of another type. -/
theorem arg_one {r : Reach} {b0 : Nat} {t : TypeId} {ts : T} {v : Value} {d : DataW H} {ps : List MemPlace} (hval : Value.okWide P w r b0 t v) (h : DataW.Trod enc P w base spare held t v d ps) {k : Nat} (hq : okT P k t ts = true) (hs : ∀ fs, P.underlying t ≠ some (.struct fs)) :
    ∃ d : ts.den, OkT ts d ∧ RegsOK w (Old w) (fun _ => none) (fun _ _ => False) [] [v] ((cellsT ts d).map AV.d) := by
  obtain ⟨fuel, hf⟩ := h
  obtain ⟨d, h1, h2⟩ := trod_rd fuel t _ _ ts k hf hq
  refine ⟨d, h2, ?_⟩
  have hv : v.cells.toList = [v] := by
    cases v with
    | agg cs =>
      exfalso
      unfold Value.okWide at hval
      cases k with
      | zero => simp [okT] at hq
      | succ k =>
        simp only [okT] at hq
        split at hq
        · rename_i ht; simp [ht, Cell.okWide, Cell.ok] at hval
        · rename_i ht; simp [ht, Cell.okWide, Cell.ok] at hval
        · rename_i ht; simp [ht, Cell.okWide, Cell.ok] at hval
        · rename_i ht; simp [ht, Cell.okWide, Cell.ok] at hval
        · rename_i fs ht; exact hs fs ht
        · cases hq
    | _ => rfl
  rw [hv] at h1
  exact h1.regs

/-- The row's word, where it is true and nothing below has turned. -/
theorem post_true {f : Func} {s : ChangeSpec} {fresh handsOn : Bool} {W W' : World} {args : Array Value} {ds gs : List (DataW H)} {before : List MemPlace} {tb : TypeId}
    (hW : DataW.Whole enc P f.params.toList s.vars false W args.toList ds gs before) (hvars : s.vars = []) (hfn : ∀ ds' : List (DataW H), ds'.length = f.params.size → s.fn H ds' = { results := [.lit (.bool true)], args := ds' })
    (hres : f.resultTypes = #[tb]) (htb : P.underlying tb = some .bool) (hl : laidOutB P = true) (hps : f.params.toList.all (fun t => P.readableRec t && decide (t < P.types.size)) = true) (hb : Below W.heap.size W W') :
    s.post enc P f false fresh handsOn false W args (.bool true) W' := by
  obtain ⟨p, q, hA, hV, rfl, hfz, hnd⟩ := id hW
  rw [hvars] at hV
  obtain ⟨rfl, rfl⟩ := trodVars_none hV
  have hlen : ∀ {ts : List TypeId} {vs : List Value} {ds : List (DataW H)} {ps : List MemPlace}, DataW.TrodAll enc P W 0 (fun _ => true) true ts vs ds ps → ds.length = ts.length := by
    intro ts
    induction ts with
    | nil => intro vs ds ps h; cases vs <;> cases ds <;> simp_all [DataW.TrodAll]
    | cons t ts ih =>
      intro vs ds ps h
      cases vs with
      | nil => simp [DataW.TrodAll] at h
      | cons v vs => cases ds with
        | nil => simp [DataW.TrodAll] at h
        | cons d ds =>
          obtain ⟨p, q, _, h2, _⟩ := h
          simp [ih h2]
  have hfn' := hfn (ds ++ []) (by simp [hlen hA])
  simp only [List.append_nil] at hfn' hW
  have hlt : ∀ x ∈ p, x.block < W.heap.size := fun x hx => by simpa using hW.lt x hx
  have hargs : ∀ {ts : List TypeId} {vs : List Value} {ds : List (DataW H)} {ps : List MemPlace}, ts.all (fun t => P.readableRec t && decide (t < P.types.size)) = true → (∀ x ∈ ps, x.block < W.heap.size) → DataW.TrodAll enc P W 0 (fun _ => true) true ts vs ds ps →
      DataW.TrodAll enc P W' 0 (fun b => decide (b < W.heap.size)) true ts vs ds ps := by
    intro ts
    induction ts with
    | nil => intro vs ds ps _ _ h; cases vs <;> cases ds <;> simp_all [DataW.TrodAll]
    | cons t ts ih =>
      intro vs ds ps ht hlt h
      cases vs with
      | nil => simp [DataW.TrodAll] at h
      | cons v vs => cases ds with
        | nil => simp [DataW.TrodAll] at h
        | cons d ds =>
          obtain ⟨p, q, h1, h2, rfl⟩ := h
          simp only [List.all_cons, Bool.and_eq_true, decide_eq_true_eq] at ht
          exact ⟨p, q, Below.trod hl ht.1.1 ht.1.2 h1 hb (fun x hx => hlt x (by simp [hx])), ih (by simpa using ht.2) (fun x hx => hlt x (by simp [hx])) h2, rfl⟩
  refine ⟨ds, [], p ++ [], [], p, [], by simpa using hW, ?_, ?_, ?_, ?_, fun h => by cases h⟩
  · simp only [List.append_nil, hfn', hres, Value.resultList]
    exact ⟨[], [], ⟨1, by simp [DataW.trod, htb, Value.cells]⟩, rfl, rfl⟩
  · simp only [List.append_nil, hfn']
    exact hargs hps hlt hA
  · simp only [hvars, List.append_nil, hfn']
    rfl
  · exact Below.frame hb _
end
end Go.Proofs.YtniakiefibpgmaaGreatDoorK
