/- What the functions come to. -/
import Derived.Test.YtfklggpopffkjaaF10
set_option linter.unusedVariables false
set_option linter.unusedSimpArgs false
namespace Go.Proofs.YtfklggpopffkjaaK
open Go.RowKit
abbrev ItemD := List (List UInt8) × List UInt8
def davN (name text : List UInt8) (k : List NodeT) : NodeT := .mk [68, 65, 86, 58] name text k
def propN (q : PropD) : NodeT := .mk q.1 q.2.1 q.2.2 []
def respK (ps : List PropD) (i : Nat) (x : ItemD) : List NodeT :=
  [davN [104, 114, 101, 102] (pathTextB x.1) [], davN [116, 97, 103] x.2 []] ++ if i = 0 ∧ ps ≠ [] then [davN [112, 114, 111, 112] [] (ps.map propN)] else []
def respN (ps : List PropD) (i : Nat) (x : ItemD) : NodeT := davN [114, 101, 115, 112, 111, 110, 115, 101] [] (respK ps i x)
def multiK (l : List ItemD) (ps : List PropD) : List NodeT := l.mapIdx (respN ps)
def multiB (l : List ItemD) (ps : List PropD) : NodeT := davN [109, 117, 108, 116, 105, 115, 116, 97, 116, 117, 115] [] (multiK l ps)
abbrev nodeR (a b c : List UInt8) (k : List NodeT) : Option (List (Option Ob) × RV) := some ([], .agg [.fz (.s a), .fz (.s b), .fz (.s c), .own (.sl .node k)])
theorem multiK_snoc (ps : List PropD) {l : List ItemD} {i : Nat} (h : i < l.length) : multiK (l.take (i + 1)) ps = multiK (l.take i) ps ++ [respN ps i l[i]] := by
  unfold multiK
  rw [take_snoc h, List.mapIdx_concat, List.length_take, Nat.min_eq_left (by omega)]
theorem multiK_len (l : List ItemD) (ps : List PropD) : (multiK l ps).length = l.length := by simp [multiK]
theorem sl18Dav_ok (a b : List UInt8) : V sl18Dav [.d (.s a), .d (.s b)] [] = nodeR [68, 65, 86, 58] a b [] := by
  rw [V_eq (fn := sl18Dav_m) (by kernel_rfl)]
  simp -implicitDefEqProofs [sl18Dav_m]
theorem itextNode_ok (a b : List UInt8) : V itextNode [.d (.s a), .d (.s b)] [] = nodeR [68, 65, 86, 58] a b [] := by
  rw [V_eq (fn := itextNode_m) (by kernel_rfl)]
  simp -implicitDefEqProofs [itextNode_m]
theorem idavNode_ok (a : List UInt8) (k : List NodeT) : V idavNode [.d (.s a), .h 0 0 k.length] [.ls .node false k 0 []] = some ([none], .agg [.fz (.s [68, 65, 86, 58]), .fz (.s a), .fz (.s []), .own (.sl .node k)]) := by
  rw [V_eq (fn := idavNode_m) (by kernel_rfl)]
  simp -implicitDefEqProofs [idavNode_m]
theorem idavNode_nil (a : List UInt8) : V idavNode [.d (.s a), .nil .node] [] = nodeR [68, 65, 86, 58] a [] [] := by
  rw [V_eq (fn := idavNode_m) (by kernel_rfl)]
  simp -implicitDefEqProofs [idavNode_m]
theorem sMultiNode_l (l : List ItemD) (ps : List PropD) (acc : List NodeT) (r0 : List NodeT) (i : Nat) (hps : ps.length ≤ 1099511627776) :
    DL V (.loop sMultiNode_l0) ⟨[(9, i6 0), (8, .p 72 0 0), (7, .p 71 0 0), (6, i6 i), (5, .p 69 0 0), (4, .p 68 0 0), (1, .d (.sl TProp ps)), (0, .d (.sl TItem l))], [(72, .ls .node false [.mk [68, 65, 86, 58] [112, 114, 111, 112] [] []] 0 []), (71, .ls .node false [.mk [68, 65, 86, 58] [114, 101, 115, 112, 111, 110, 115, 101] [] r0] 0 []), (69, .ls .node false [.mk [68, 65, 86, 58] [109, 117, 108, 116, 105, 115, 116, 97, 116, 117, 115] [] acc] 0 []), (68, .ls .node false [.mk [] [] [] []] 0 [])]⟩ =
    some (.ex 2, ⟨[(8, .p 72 0 0), (7, .p 71 0 0), (6, i6 i), (5, .p 69 0 0), (4, .p 68 0 0), (1, .d (.sl TProp ps)), (0, .d (.sl TItem l))], [(72, .ls .node false [.mk [68, 65, 86, 58] [112, 114, 111, 112] [] (ps.map propN)] 0 []), (71, .ls .node false [.mk [68, 65, 86, 58] [114, 101, 115, 112, 111, 110, 115, 101] [] r0] 0 []), (69, .ls .node false [.mk [68, 65, 86, 58] [109, 117, 108, 116, 105, 115, 116, 97, 116, 117, 115] [] acc] 0 []), (68, .ls .node false [.mk [] [] [] []] 0 [])]⟩) := by
  have L := loop_each (X := V) (c := sMultiNode_l0) ps.length (fun j : Nat => ⟨[(9, i6 j), (8, .p 72 0 0), (7, .p 71 0 0), (6, i6 i), (5, .p 69 0 0), (4, .p 68 0 0), (1, .d (.sl TProp ps)), (0, .d (.sl TItem l))], [(72, .ls .node false [.mk [68, 65, 86, 58] [112, 114, 111, 112] [] ((ps.take j).map propN)] 0 []), (71, .ls .node false [.mk [68, 65, 86, 58] [114, 101, 115, 112, 111, 110, 115, 101] [] r0] 0 []), (69, .ls .node false [.mk [68, 65, 86, 58] [109, 117, 108, 116, 105, 115, 116, 97, 116, 117, 115] [] acc] 0 []), (68, .ls .node false [.mk [] [] [] []] 0 [])]⟩)
    (.ex 2, ⟨[(8, .p 72 0 0), (7, .p 71 0 0), (6, i6 i), (5, .p 69 0 0), (4, .p 68 0 0), (1, .d (.sl TProp ps)), (0, .d (.sl TItem l))], [(72, .ls .node false [.mk [68, 65, 86, 58] [112, 114, 111, 112] [] (ps.map propN)] 0 []), (71, .ls .node false [.mk [68, 65, 86, 58] [114, 101, 115, 112, 111, 110, 115, 101] [] r0] 0 []), (69, .ls .node false [.mk [68, 65, 86, 58] [109, 117, 108, 116, 105, 115, 116, 97, 116, 117, 115] [] acc] 0 []), (68, .ls .node false [.mk [] [] [] []] 0 [])]⟩) (by simp)
    (fun j hj => by
      rw [take_snoc hj, List.map_append]
      have hk : ((ps.take j).map propN).length = j := by rw [List.length_map, List.length_take]; omega
      generalize (ps.take j).map propN = q at hk ⊢
      simp -implicitDefEqProofs [sMultiNode_l0, hj, get_some hj, hk, wrap_succ hj (by omega), propN, (by omega : (j + 1) * 72 ≤ 140737488355328), take_all hk, take_snoc_all hk])
    (by rw [List.take_length]; simp -implicitDefEqProofs [sMultiNode_l0])
  simp only [Int.natCast_zero, List.take_zero, List.map_nil] at L
  exact L
theorem okP_item {l : List ItemD} {i : Nat} (h : i < l.length) (hl : szT (.sl TItem) l ≤ 1099511627776) : szT (.sl .str) l[i].1 ≤ 1099511627776 := by
  have := szG (t := TItem) h
  simp only [szT_pr] at this
  omega
set_option maxHeartbeats 1000000 in
set_option maxRecDepth 100000 in
theorem sMultiNode_ok (l : List ItemD) (ps : List PropD) (hl : szT (.sl TItem) l ≤ 1099511627776) (hps : ps.length ≤ 1099511627776) : V sMultiNode [.d (.sl TItem l), .d (.sl TProp ps)] [] = nodeR [68, 65, 86, 58] [109, 117, 108, 116, 105, 115, 116, 97, 116, 117, 115] [] (multiK l ps) := by
  rw [V_eq (fn := sMultiNode_m) (by kernel_rfl)]
  have hn := szLen (t := TItem) (l := l)
  have d0 := sl18Dav_ok [109, 117, 108, 116, 105, 115, 116, 97, 116, 117, 115] []
  have d1 := sl18Dav_ok [114, 101, 115, 112, 111, 110, 115, 101] []
  have d2 := sl18Dav_ok [112, 114, 111, 112] []
  have L := loop_each (X := V) (c := sMultiNode_l1) l.length (fun i : Nat => ⟨[(6, i6 i), (5, .p 69 0 0), (4, .p 68 0 0), (1, .d (.sl TProp ps)), (0, .d (.sl TItem l))], [(69, .ls .node false [.mk [68, 65, 86, 58] [109, 117, 108, 116, 105, 115, 116, 97, 116, 117, 115] [] (multiK (l.take i) ps)] 0 []), (68, .ls .node false [.mk [] [] [] []] 0 [])]⟩)
    (.ex 0, ⟨[(5, .p 69 0 0), (4, .p 68 0 0)], [(69, .ls .node false [.mk [68, 65, 86, 58] [109, 117, 108, 116, 105, 115, 116, 97, 116, 117, 115] [] (multiK l ps)] 0 []), (68, .ls .node false [.mk [] [] [] []] 0 [])]⟩) (by simp)
    (fun i hi => by
      have e1 := sPathText_ok l[i].1 (okP_sz (okP_item hi hl))
      have d3 := sl18Dav_ok [104, 114, 101, 102] (pathTextB l[i].1)
      have d4 := sl18Dav_ok [116, 97, 103] l[i].2
      have hk : (multiK (l.take i) ps).length = i := by rw [multiK_len, List.length_take]; omega
      rw [multiK_snoc ps hi]
      generalize multiK (l.take i) ps = q at hk ⊢
      have hq := take_all hk
      by_cases c : i = 0 ∧ ps ≠ []
      · obtain ⟨c1, c2⟩ := c
        have c3 : 0 < ps.length := List.length_pos_iff.2 c2
        have L0 := sMultiNode_l l ps q [.mk [68, 65, 86, 58] [104, 114, 101, 102] (pathTextB l[i].1) [], .mk [68, 65, 86, 58] [116, 97, 103] l[i].2 []] i hps
        have hr : respN ps i l[i] = .mk [68, 65, 86, 58] [114, 101, 115, 112, 111, 110, 115, 101] [] [.mk [68, 65, 86, 58] [104, 114, 101, 102] (pathTextB l[i].1) [], .mk [68, 65, 86, 58] [116, 97, 103] l[i].2 [], .mk [68, 65, 86, 58] [112, 114, 111, 112] [] (ps.map propN)] := by simp [respN, respK, davN, c1, c2]
        have h0 : decide (i = 0) = true := decide_eq_true c1
        rw [hr]
        simp -implicitDefEqProofs [sMultiNode_l1, hi, get_some hi, hk, hq, take_snoc_all hk, h0, c3, d1, d2, d3, d4, e1, L0, (take_all (by simp) : (ps.map propN).take ps.length = ps.map propN), (by omega : (i + 1) * 72 ≤ 140737488355328), wrap_succ hi (by omega)]
      · have hr : respN ps i l[i] = .mk [68, 65, 86, 58] [114, 101, 115, 112, 111, 110, 115, 101] [] [.mk [68, 65, 86, 58] [104, 114, 101, 102] (pathTextB l[i].1) [], .mk [68, 65, 86, 58] [116, 97, 103] l[i].2 []] := by simp only [respN, respK, davN, if_neg c]; rfl
        rw [hr]
        by_cases c1 : i = 0
        · have c2 : ps = [] := by by_cases q : ps = []; exact q; exact absurd ⟨c1, q⟩ c
          subst c2
          have h0 : decide (i = 0) = true := decide_eq_true c1
          simp -implicitDefEqProofs [sMultiNode_l1, hi, get_some hi, hk, hq, take_snoc_all hk, h0, d1, d2, d3, d4, e1, (by omega : (i + 1) * 72 ≤ 140737488355328), wrap_succ hi (by omega)]
        · have h0 : decide (i = 0) = false := decide_eq_false c1
          simp -implicitDefEqProofs [sMultiNode_l1, hi, get_some hi, hk, hq, take_snoc_all hk, h0, d1, d2, d3, d4, e1, (by omega : (i + 1) * 72 ≤ 140737488355328), wrap_succ hi (by omega)])
    (by rw [List.take_length]; simp -implicitDefEqProofs [sMultiNode_l1])
  simp only [Int.natCast_zero, List.take_zero, multiK, List.mapIdx_nil] at L
  unfold multiK
  simp -implicitDefEqProofs [sMultiNode_m, d0, L, (take_all (by simp) : (l.mapIdx (respN ps)).take l.length = l.mapIdx (respN ps))]
theorem iMultiNode_l (l : List ItemD) (ps : List PropD) (acc : List NodeT) (r0 : List NodeT) (i : Nat) (hps : ps.length ≤ 1099511627776) :
    DL V (.loop iMultiNode_l0) ⟨[(39, i6 0), (38, i6 ps.length), (37, .d (.sl TProp ps)), (15, i6 i), (14, i6 l.length), (13, .d (.sl TItem l)), (9, .p 73 0 0), (8, .p 72 0 0), (5, .p 69 0 0), (4, .p 68 0 0), (1, .d (.sl TProp ps))], [(73, .ls .node false [.mk [68, 65, 86, 58] [112, 114, 111, 112] [] []] 0 []), (72, .ls .node false [.mk [68, 65, 86, 58] [114, 101, 115, 112, 111, 110, 115, 101] [] r0] 0 []), (69, .ls .node false [.mk [68, 65, 86, 58] [109, 117, 108, 116, 105, 115, 116, 97, 116, 117, 115] [] acc] 0 []), (68, .ls .node false [.mk [] [] [] []] 0 [])]⟩ =
    some (.ex 2, ⟨[(15, i6 i), (14, i6 l.length), (13, .d (.sl TItem l)), (9, .p 73 0 0), (8, .p 72 0 0), (5, .p 69 0 0), (4, .p 68 0 0), (1, .d (.sl TProp ps))], [(73, .ls .node false [.mk [68, 65, 86, 58] [112, 114, 111, 112] [] (ps.map propN)] 0 []), (72, .ls .node false [.mk [68, 65, 86, 58] [114, 101, 115, 112, 111, 110, 115, 101] [] r0] 0 []), (69, .ls .node false [.mk [68, 65, 86, 58] [109, 117, 108, 116, 105, 115, 116, 97, 116, 117, 115] [] acc] 0 []), (68, .ls .node false [.mk [] [] [] []] 0 [])]⟩) := by
  have L := loop_each (X := V) (c := iMultiNode_l0) ps.length (fun j : Nat => ⟨[(39, i6 j), (38, i6 ps.length), (37, .d (.sl TProp ps)), (15, i6 i), (14, i6 l.length), (13, .d (.sl TItem l)), (9, .p 73 0 0), (8, .p 72 0 0), (5, .p 69 0 0), (4, .p 68 0 0), (1, .d (.sl TProp ps))], [(73, .ls .node false [.mk [68, 65, 86, 58] [112, 114, 111, 112] [] ((ps.take j).map propN)] 0 []), (72, .ls .node false [.mk [68, 65, 86, 58] [114, 101, 115, 112, 111, 110, 115, 101] [] r0] 0 []), (69, .ls .node false [.mk [68, 65, 86, 58] [109, 117, 108, 116, 105, 115, 116, 97, 116, 117, 115] [] acc] 0 []), (68, .ls .node false [.mk [] [] [] []] 0 [])]⟩)
    (.ex 2, ⟨[(15, i6 i), (14, i6 l.length), (13, .d (.sl TItem l)), (9, .p 73 0 0), (8, .p 72 0 0), (5, .p 69 0 0), (4, .p 68 0 0), (1, .d (.sl TProp ps))], [(73, .ls .node false [.mk [68, 65, 86, 58] [112, 114, 111, 112] [] (ps.map propN)] 0 []), (72, .ls .node false [.mk [68, 65, 86, 58] [114, 101, 115, 112, 111, 110, 115, 101] [] r0] 0 []), (69, .ls .node false [.mk [68, 65, 86, 58] [109, 117, 108, 116, 105, 115, 116, 97, 116, 117, 115] [] acc] 0 []), (68, .ls .node false [.mk [] [] [] []] 0 [])]⟩) (by simp)
    (fun j hj => by
      rw [take_snoc hj, List.map_append]
      have hk : ((ps.take j).map propN).length = j := by rw [List.length_map, List.length_take]; omega
      generalize (ps.take j).map propN = q at hk ⊢
      simp -implicitDefEqProofs [iMultiNode_l0, hj, get_some hj, hk, wrap_succ hj (by omega), propN, (by omega : (j + 1) * 72 ≤ 140737488355328), take_all hk, take_snoc_all hk])
    (by rw [List.take_length]; simp -implicitDefEqProofs [iMultiNode_l0])
  simp only [Int.natCast_zero, List.take_zero, List.map_nil] at L
  exact L
theorem okP_item' {l : List ItemD} {i : Nat} (h : i < l.length) (hl : szT (.sl TItem) l ≤ 1099511627776) : szT (.sl .str) l[i].1 ≤ 1099511627776 := by
  have := szG (t := TItem) h
  simp only [szT_pr] at this
  omega
set_option maxHeartbeats 1000000 in
set_option maxRecDepth 100000 in
theorem iMultiNode_ok (l : List ItemD) (ps : List PropD) (hl : szT (.sl TItem) l ≤ 1099511627776) (hps : ps.length ≤ 1099511627776) : V iMultiNode [.d (.sl TItem l), .d (.sl TProp ps)] [] = nodeR [68, 65, 86, 58] [109, 117, 108, 116, 105, 115, 116, 97, 116, 117, 115] [] (multiK l ps) := by
  rw [V_eq (fn := iMultiNode_m) (by kernel_rfl)]
  have hn := szLen (t := TItem) (l := l)
  have d0 := idavNode_nil [109, 117, 108, 116, 105, 115, 116, 97, 116, 117, 115]
  have d2 := idavNode_nil [112, 114, 111, 112]
  have L := loop_each (X := V) (c := iMultiNode_l1) l.length (fun i : Nat => ⟨[(15, i6 i), (14, i6 l.length), (13, .d (.sl TItem l)), (5, .p 69 0 0), (4, .p 68 0 0), (1, .d (.sl TProp ps))], [(69, .ls .node false [.mk [68, 65, 86, 58] [109, 117, 108, 116, 105, 115, 116, 97, 116, 117, 115] [] (multiK (l.take i) ps)] 0 []), (68, .ls .node false [.mk [] [] [] []] 0 [])]⟩)
    (.ex 0, ⟨[(5, .p 69 0 0), (4, .p 68 0 0)], [(69, .ls .node false [.mk [68, 65, 86, 58] [109, 117, 108, 116, 105, 115, 116, 97, 116, 117, 115] [] (multiK l ps)] 0 []), (68, .ls .node false [.mk [] [] [] []] 0 [])]⟩) (by simp)
    (fun i hi => by
      have e1 := iPathText_ok l[i].1 (okP_sz (okP_item' hi hl))
      have d3 := itextNode_ok [104, 114, 101, 102] (pathTextB l[i].1)
      have d4 := itextNode_ok [116, 97, 103] l[i].2
      have d1 := idavNode_ok [114, 101, 115, 112, 111, 110, 115, 101] [.mk [68, 65, 86, 58] [104, 114, 101, 102] (pathTextB l[i].1) [], .mk [68, 65, 86, 58] [116, 97, 103] l[i].2 []]
      simp only [List.length_cons, List.length_nil, Nat.zero_add, Nat.reduceAdd] at d1
      have hk : (multiK (l.take i) ps).length = i := by rw [multiK_len, List.length_take]; omega
      rw [multiK_snoc ps hi]
      generalize multiK (l.take i) ps = q at hk ⊢
      have hq := take_all hk
      by_cases c : i = 0 ∧ ps ≠ []
      · obtain ⟨c1, c2⟩ := c
        have c3 : 0 < ps.length := List.length_pos_iff.2 c2
        have L0 := iMultiNode_l l ps q [.mk [68, 65, 86, 58] [104, 114, 101, 102] (pathTextB l[i].1) [], .mk [68, 65, 86, 58] [116, 97, 103] l[i].2 []] i hps
        have hr : respN ps i l[i] = .mk [68, 65, 86, 58] [114, 101, 115, 112, 111, 110, 115, 101] [] [.mk [68, 65, 86, 58] [104, 114, 101, 102] (pathTextB l[i].1) [], .mk [68, 65, 86, 58] [116, 97, 103] l[i].2 [], .mk [68, 65, 86, 58] [112, 114, 111, 112] [] (ps.map propN)] := by simp [respN, respK, davN, c1, c2]
        have h0 : decide (i = 0) = true := decide_eq_true c1
        rw [hr]
        simp -implicitDefEqProofs [iMultiNode_l1, hi, get_some hi, hk, hq, take_snoc_all hk, h0, c3, d1, d2, d3, d4, e1, L0, (take_all (by simp) : (ps.map propN).take ps.length = ps.map propN), (by omega : (i + 1) * 72 ≤ 140737488355328), wrap_succ hi (by omega)]
      · have hr : respN ps i l[i] = .mk [68, 65, 86, 58] [114, 101, 115, 112, 111, 110, 115, 101] [] [.mk [68, 65, 86, 58] [104, 114, 101, 102] (pathTextB l[i].1) [], .mk [68, 65, 86, 58] [116, 97, 103] l[i].2 []] := by simp only [respN, respK, davN, if_neg c]; rfl
        rw [hr]
        by_cases c1 : i = 0
        · have c2 : ps = [] := by by_cases q : ps = []; exact q; exact absurd ⟨c1, q⟩ c
          subst c2
          have h0 : decide (i = 0) = true := decide_eq_true c1
          simp -implicitDefEqProofs [iMultiNode_l1, hi, get_some hi, hk, hq, take_snoc_all hk, h0, d1, d2, d3, d4, e1, (by omega : (i + 1) * 72 ≤ 140737488355328), wrap_succ hi (by omega)]
        · have h0 : decide (i = 0) = false := decide_eq_false c1
          simp -implicitDefEqProofs [iMultiNode_l1, hi, get_some hi, hk, hq, take_snoc_all hk, h0, d1, d2, d3, d4, e1, (by omega : (i + 1) * 72 ≤ 140737488355328), wrap_succ hi (by omega)])
    (by rw [List.take_length]; simp -implicitDefEqProofs [iMultiNode_l1])
  simp only [Int.natCast_zero, List.take_zero, multiK, List.mapIdx_nil] at L
  unfold multiK
  simp -implicitDefEqProofs [iMultiNode_m, d0, L, (take_all (by simp) : (l.mapIdx (respN ps)).take l.length = l.mapIdx (respN ps))]
end Go.Proofs.YtfklggpopffkjaaK
