/- Plain facts: tables of runes. No program in sight. -/
import Derived.Test.YteddjadeenimkaaPlain
set_option linter.unusedVariables false
set_option linter.unusedSimpArgs false
namespace Bf
def zeroT : List (Int × Int) := [(768, 879), (1155, 1161), (1425, 1469), (1471, 1471), (1473, 1474), (1476, 1477), (1479, 1479), (1552, 1562), (1611, 1631), (1648, 1648), (1750, 1756), (1759, 1764), (1767, 1768), (1770, 1773), (1809, 1809), (1840, 1866), (1958, 1968), (2027, 2035), (2070, 2073), (2075, 2083), (2085, 2087), (2089, 2093), (2137, 2139), (2259, 2273), (2275, 2306), (2362, 2362), (2364, 2364), (2369, 2376), (2381, 2381), (2385, 2391), (2402, 2403), (2433, 2433), (2492, 2492), (2497, 2500), (2509, 2509), (2561, 2562), (2620, 2620), (2625, 2626), (2631, 2632), (2635, 2637), (3633, 3633), (3636, 3642), (3655, 3662), (3761, 3761), (3764, 3772), (3784, 3789), (4448, 4607), (4957, 4959), (5906, 5908), (6068, 6069), (6071, 6077), (6155, 6157), (6832, 6846), (7616, 7673), (7675, 7679), (8203, 8207), (8232, 8238), (8288, 8303), (8400, 8432), (12330, 12333), (12441, 12442), (42607, 42610), (42612, 42621), (42654, 42655), (42736, 42737), (43232, 43249), (64286, 64286), (65024, 65039), (65056, 65071), (65279, 65279), (65529, 65531), (66045, 66045), (68097, 68099), (68101, 68102), (68108, 68111), (119143, 119145), (119155, 119170), (119173, 119179), (119210, 119213), (917505, 917505), (917536, 917631), (917760, 917999)]
def wideT : List (Int × Int) := [(4352, 4447), (8986, 8987), (9001, 9002), (9193, 9196), (9200, 9200), (9203, 9203), (9725, 9726), (9748, 9749), (9800, 9811), (9855, 9855), (9875, 9875), (9889, 9889), (9898, 9899), (9917, 9918), (9924, 9925), (9934, 9934), (9940, 9940), (9962, 9962), (9970, 9971), (9973, 9973), (9978, 9978), (9981, 9981), (9989, 9989), (9994, 9995), (10024, 10024), (10060, 10060), (10062, 10062), (10067, 10069), (10071, 10071), (10133, 10135), (10160, 10160), (10175, 10175), (11035, 11036), (11088, 11088), (11093, 11093), (11904, 11929), (11931, 12019), (12032, 12245), (12272, 12283), (12288, 12329), (12334, 12350), (12353, 12438), (12443, 12543), (12549, 12591), (12593, 12686), (12688, 12730), (12736, 12771), (12784, 12830), (12832, 12871), (12880, 19903), (19968, 42124), (42128, 42182), (43360, 43388), (44032, 55203), (63744, 64255), (65040, 65049), (65072, 65106), (65108, 65126), (65128, 65131), (65281, 65376), (65504, 65510), (94176, 94179), (94208, 100343), (100352, 101106), (110592, 110878), (110928, 110930), (110948, 110951), (110960, 111355), (126980, 126980), (127183, 127183), (127374, 127374), (127377, 127386), (127488, 127490), (127504, 127547), (127552, 127560), (127568, 127569), (127584, 127589), (127744, 127776), (127789, 127797), (127799, 127868), (127870, 127891), (127904, 127946), (127951, 127955), (127968, 127984), (127988, 127988), (127992, 128062), (128064, 128064), (128066, 128252), (128255, 128317), (128331, 128334), (128336, 128359), (128378, 128378), (128405, 128406), (128420, 128420), (128507, 128591), (128640, 128709), (128716, 128716), (128720, 128722), (128725, 128727), (128747, 128748), (128756, 128764), (128992, 129003), (129292, 129338), (129340, 129349), (129351, 129400), (129402, 129483), (129485, 129535), (129648, 129652), (129656, 129658), (129664, 129670), (129680, 129704), (129712, 129718), (129728, 129730), (129744, 129750), (131072, 196605), (196608, 262141)]
def controlT : List (Int × Int) := [(0, 31), (127, 159)]
def bidiT : List (Int × Int) := [(1564, 1564), (8206, 8207), (8234, 8238), (8294, 8297)]
def formatT : List (Int × Int) := [(173, 173), (1536, 1541), (1757, 1757), (1807, 1807), (2274, 2274), (6158, 6158), (8203, 8205), (8288, 8292), (8298, 8303), (65279, 65279), (65529, 65531), (69821, 69821), (69837, 69837), (113824, 113827), (119155, 119162), (917505, 917505), (917536, 917631)]
def separatorT : List (Int × Int) := [(8232, 8233)]
def hasT (l : List (Int × Int)) (r : Int) : Bool := l.any fun p => decide (p.1 ≤ r) && decide (r ≤ p.2)
/-- In order, and apart. -/
def orderT : List (Int × Int) → Bool
  | [] => true
  | [p] => decide (p.1 ≤ p.2)
  | p :: q :: l => decide (p.1 ≤ p.2) && decide (p.2 < q.1) && orderT (q :: l)
theorem orderT_head {p : Int × Int} {l : List (Int × Int)} (h : orderT (p :: l) = true) : p.1 ≤ p.2 ∧ orderT l = true ∧ ∀ q ∈ l, p.2 < q.1 := by
  induction l generalizing p with
  | nil => simp [orderT] at h; exact ⟨h, rfl, by simp⟩
  | cons q l ih =>
    simp [orderT] at h
    obtain ⟨⟨h1, h2⟩, h3⟩ := h
    obtain ⟨i1, i2, i3⟩ := ih h3
    refine ⟨h1, h3, ?_⟩
    intro x hx
    rcases List.mem_cons.1 hx with rfl | hx
    · exact h2
    · have := i3 x hx; omega
theorem orderT_get {l : List (Int × Int)} (h : orderT l = true) : (∀ i (hi : i < l.length), l[i].1 ≤ l[i].2) ∧ ∀ i j (hi : i < l.length) (hj : j < l.length), i < j → l[i].2 < l[j].1 := by
  induction l with
  | nil => exact ⟨fun i hi => by simp at hi, fun i j hi => by simp at hi⟩
  | cons p l ih =>
    obtain ⟨h1, h2, h3⟩ := orderT_head h
    obtain ⟨i1, i2⟩ := ih h2
    refine ⟨?_, ?_⟩
    · intro i hi
      cases i with
      | zero => exact h1
      | succ i => simpa using i1 i (by simpa using hi)
    · intro i j hi hj hij
      cases j with
      | zero => omega
      | succ j =>
        cases i with
        | zero => simpa using h3 _ (List.getElem_mem (by simpa using hj))
        | succ i => simpa using i2 i j (by simpa using hi) (by simpa using hj) (by omega)
/-- What a search by halves leaves out is not there. -/
def OutT (l : List (Int × Int)) (r : Int) (lo hi : Nat) : Prop := ∀ i (h : i < l.length), i < lo ∨ hi ≤ i → ¬ (l[i].1 ≤ r ∧ r ≤ l[i].2)
theorem outT_left {l : List (Int × Int)} {r : Int} {lo hi mid : Nat} (ho : orderT l = true) (h : OutT l r lo hi) (hm : mid < l.length) (hr : r < l[mid].1) : OutT l r lo mid := by
  obtain ⟨o1, o2⟩ := orderT_get ho
  intro i hi hor
  rcases hor with a | a
  · exact h i hi (Or.inl a)
  · rcases Nat.lt_or_eq_of_le a with b | b
    · have := o2 mid i hm hi b; have := o1 mid hm; intro hc; omega
    · subst b; intro hc; omega
theorem outT_right {l : List (Int × Int)} {r : Int} {lo hi mid : Nat} (ho : orderT l = true) (h : OutT l r lo hi) (hm : mid < l.length) (hr : l[mid].2 < r) : OutT l r (mid + 1) hi := by
  obtain ⟨o1, o2⟩ := orderT_get ho
  intro i hi hor
  rcases hor with a | a
  · rcases Nat.lt_or_eq_of_le (Nat.le_of_lt_succ a) with b | b
    · have := o2 i mid hi hm b; have := o1 mid hm; intro hc; omega
    · subst b; intro hc; omega
  · exact h i hi (Or.inr a)
theorem hasT_yes {l : List (Int × Int)} {r : Int} {i : Nat} (h : i < l.length) (h1 : l[i].1 ≤ r) (h2 : r ≤ l[i].2) : hasT l r = true := by
  unfold hasT; rw [List.any_eq_true]; exact ⟨l[i], List.getElem_mem h, by simp [h1, h2]⟩
theorem hasT_no {l : List (Int × Int)} {r : Int} {lo hi : Nat} (h : OutT l r lo hi) (hle : hi ≤ lo) : hasT l r = false := by
  unfold hasT; rw [List.any_eq_false]
  intro p hp
  obtain ⟨i, hi, rfl⟩ := List.getElem_of_mem hp
  have := h i hi (by omega)
  simp; omega
theorem outT_start (l : List (Int × Int)) (r : Int) : OutT l r 0 l.length := fun i h hor => by omega
theorem zero_order : orderT zeroT = true := by decide +kernel
theorem wide_order : orderT wideT = true := by decide +kernel
theorem control_order : orderT controlT = true := by decide +kernel
theorem bidi_order : orderT bidiT = true := by decide +kernel
theorem format_order : orderT formatT = true := by decide +kernel
theorem separator_order : orderT separatorT = true := by decide +kernel
end Bf
