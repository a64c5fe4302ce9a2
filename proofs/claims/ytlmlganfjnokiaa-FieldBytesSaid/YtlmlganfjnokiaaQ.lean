import Derived.Test.YtlmlganfjnokiaaP
set_option maxRecDepth 100000
set_option exponentiation.threshold 2000
namespace NT
theorem pr_271 : Pr 271 := small (by kernel_rfl)
theorem pr1 : Pr 1627 := cert (l := [(271, 0, 2)]) (by kernel_rfl) (by
  intro r hr
  simp only [List.mem_cons, List.not_mem_nil, or_false] at hr
  rcases hr with rfl
  · exact pr_271)
theorem pr_83 : Pr 83 := small (by kernel_rfl)
theorem pr3 : Pr 2657 := cert (l := [(83, 0, 2)]) (by kernel_rfl) (by
  intro r hr
  simp only [List.mem_cons, List.not_mem_nil, or_false] at hr
  rcases hr with rfl
  · exact pr_83)
theorem pr_2 : Pr 2 := small (by kernel_rfl)
theorem pr_3 : Pr 3 := small (by kernel_rfl)
theorem pr_11 : Pr 11 := small (by kernel_rfl)
theorem pr7 : Pr 4423 := cert (l := [(2, 0, 3), (3, 0, 3), (11, 0, 2)]) (by kernel_rfl) (by
  intro r hr
  simp only [List.mem_cons, List.not_mem_nil, or_false] at hr
  rcases hr with rfl | rfl | rfl
  · exact pr_2
  · exact pr_3
  · exact pr_11)
theorem pr_5 : Pr 5 := small (by kernel_rfl)
theorem pr9 : Pr 41201 := cert (l := [(2, 3, 3), (5, 1, 3)]) (by kernel_rfl) (by
  intro r hr
  simp only [List.mem_cons, List.not_mem_nil, or_false] at hr
  rcases hr with rfl | rfl
  · exact pr_2
  · exact pr_5)
theorem pr_101 : Pr 101 := small (by kernel_rfl)
theorem pr11 : Pr 96557 := cert (l := [(2, 1, 2), (101, 0, 2)]) (by kernel_rfl) (by
  intro r hr
  simp only [List.mem_cons, List.not_mem_nil, or_false] at hr
  rcases hr with rfl | rfl
  · exact pr_2
  · exact pr_101)
theorem pr12 : Pr 255515944373312847190720520512484175977 := cert (l := [(1627, 0, 2), (2657, 0, 2), (4423, 0, 2), (41201, 0, 2), (96557, 0, 2)]) (by kernel_rfl) (by
  intro r hr
  simp only [List.mem_cons, List.not_mem_nil, or_false] at hr
  rcases hr with rfl | rfl | rfl | rfl | rfl
  · exact pr1
  · exact pr3
  · exact pr7
  · exact pr9
  · exact pr11)
theorem pr13 : Pr 205115282021455665897114700593932402728804164701536103180137503955397371 := cert (l := [(255515944373312847190720520512484175977, 0, 2)]) (by kernel_rfl) (by
  intro r hr
  simp only [List.mem_cons, List.not_mem_nil, or_false] at hr
  rcases hr with rfl
  · exact pr12)
theorem pr14 : Pr 115792089237316195423570985008687907853269984665640564039457584007908834671663 := cert (l := [(205115282021455665897114700593932402728804164701536103180137503955397371, 0, 2)]) (by kernel_rfl) (by
  intro r hr
  simp only [List.mem_cons, List.not_mem_nil, or_false] at hr
  rcases hr with rfl
  · exact pr13)
theorem prime_secpP : Pr 115792089237316195423570985008687907853269984665640564039457584007908834671663 := pr14
theorem pr_631 : Pr 631 := small (by kernel_rfl)
theorem pr16 : Pr 16699 := cert (l := [(3, 0, 3), (11, 1, 2)]) (by kernel_rfl) (by
  intro r hr
  simp only [List.mem_cons, List.not_mem_nil, or_false] at hr
  rcases hr with rfl | rfl
  · exact pr_3
  · exact pr_11)
theorem pr17 : Pr 2861 := cert (l := [(5, 0, 2), (11, 0, 2)]) (by kernel_rfl) (by
  intro r hr
  simp only [List.mem_cons, List.not_mem_nil, or_false] at hr
  rcases hr with rfl | rfl
  · exact pr_5
  · exact pr_11)
theorem pr18 : Pr 85831 := cert (l := [(2861, 0, 2)]) (by kernel_rfl) (by
  intro r hr
  simp only [List.mem_cons, List.not_mem_nil, or_false] at hr
  rcases hr with rfl
  · exact pr17)
theorem pr19 : Pr 107361793816595537 := cert (l := [(16699, 0, 2), (85831, 0, 2)]) (by kernel_rfl) (by
  intro r hr
  simp only [List.mem_cons, List.not_mem_nil, or_false] at hr
  rcases hr with rfl | rfl
  · exact pr16
  · exact pr18)
theorem pr_59 : Pr 59 := small (by kernel_rfl)
theorem pr21 : Pr 4051 := cert (l := [(3, 3, 3)]) (by kernel_rfl) (by
  intro r hr
  simp only [List.mem_cons, List.not_mem_nil, or_false] at hr
  rcases hr with rfl
  · exact pr_3)
theorem pr_7 : Pr 7 := small (by kernel_rfl)
theorem pr_19 : Pr 19 := small (by kernel_rfl)
theorem pr24 : Pr 120233 := cert (l := [(2, 2, 3), (7, 0, 3), (19, 0, 2)]) (by kernel_rfl) (by
  intro r hr
  simp only [List.mem_cons, List.not_mem_nil, or_false] at hr
  rcases hr with rfl | rfl | rfl
  · exact pr_2
  · exact pr_7
  · exact pr_19)
theorem pr25 : Pr 174723607534414371449 := cert (l := [(59, 0, 2), (4051, 0, 2), (120233, 0, 2)]) (by kernel_rfl) (by
  intro r hr
  simp only [List.mem_cons, List.not_mem_nil, or_false] at hr
  rcases hr with rfl | rfl | rfl
  · exact pr_59
  · exact pr21
  · exact pr24)
theorem pr26 : Pr 115792089237316195423570985008687907852837564279074904382605163141518161494337 := cert (l := [(631, 0, 2), (107361793816595537, 0, 2), (174723607534414371449, 0, 2)]) (by kernel_rfl) (by
  intro r hr
  simp only [List.mem_cons, List.not_mem_nil, or_false] at hr
  rcases hr with rfl | rfl | rfl
  · exact pr_631
  · exact pr19
  · exact pr25)
theorem prime_secpN : Pr 115792089237316195423570985008687907852837564279074904382605163141518161494337 := pr26
theorem pr27 : Pr 1853641 := cert (l := [(2, 2, 7), (3, 1, 2), (19, 0, 2)]) (by kernel_rfl) (by
  intro r hr
  simp only [List.mem_cons, List.not_mem_nil, or_false] at hr
  rcases hr with rfl | rfl | rfl
  · exact pr_2
  · exact pr_3
  · exact pr_19)
theorem pr_17 : Pr 17 := small (by kernel_rfl)
theorem pr_109 : Pr 109 := small (by kernel_rfl)
theorem pr30 : Pr 4562087 := cert (l := [(2, 0, 5), (17, 0, 2), (109, 0, 2)]) (by kernel_rfl) (by
  intro r hr
  simp only [List.mem_cons, List.not_mem_nil, or_false] at hr
  rcases hr with rfl | rfl | rfl
  · exact pr_2
  · exact pr_17
  · exact pr_109)
theorem pr31 : Pr 2221 := cert (l := [(2, 1, 2), (3, 0, 2), (5, 0, 2)]) (by kernel_rfl) (by
  intro r hr
  simp only [List.mem_cons, List.not_mem_nil, or_false] at hr
  rcases hr with rfl | rfl | rfl
  · exact pr_2
  · exact pr_3
  · exact pr_5)
theorem pr32 : Pr 13327 := cert (l := [(2221, 0, 2)]) (by kernel_rfl) (by
  intro r hr
  simp only [List.mem_cons, List.not_mem_nil, or_false] at hr
  rcases hr with rfl
  · exact pr31)
theorem pr33 : Pr 173171039 := cert (l := [(13327, 0, 2)]) (by kernel_rfl) (by
  intro r hr
  simp only [List.mem_cons, List.not_mem_nil, or_false] at hr
  rcases hr with rfl
  · exact pr32)
theorem pr34 : Pr 13427688667394608761327070753331941386769 := cert (l := [(1853641, 0, 2), (4562087, 0, 2), (173171039, 0, 2)]) (by kernel_rfl) (by
  intro r hr
  simp only [List.mem_cons, List.not_mem_nil, or_false] at hr
  rcases hr with rfl | rfl | rfl
  · exact pr27
  · exact pr30
  · exact pr33)
theorem pr35 : Pr 21888242871839275222246405745257275088696311157297823662689037894645226208583 := cert (l := [(13427688667394608761327070753331941386769, 0, 2)]) (by kernel_rfl) (by
  intro r hr
  simp only [List.mem_cons, List.not_mem_nil, or_false] at hr
  rcases hr with rfl
  · exact pr34)
theorem prime_bnP : Pr 21888242871839275222246405745257275088696311157297823662689037894645226208583 := pr35
theorem pr_13 : Pr 13 := small (by kernel_rfl)
theorem pr_29 : Pr 29 := small (by kernel_rfl)
theorem pr_983 : Pr 983 := small (by kernel_rfl)
theorem pr39 : Pr 5501 := cert (l := [(5, 2, 2)]) (by kernel_rfl) (by
  intro r hr
  simp only [List.mem_cons, List.not_mem_nil, or_false] at hr
  rcases hr with rfl
  · exact pr_5)
theorem pr40 : Pr 11003 := cert (l := [(5501, 0, 2)]) (by kernel_rfl) (by
  intro r hr
  simp only [List.mem_cons, List.not_mem_nil, or_false] at hr
  rcases hr with rfl
  · exact pr39)
theorem pr41 : Pr 237073 := cert (l := [(2, 3, 5), (3, 0, 3), (11, 0, 2)]) (by kernel_rfl) (by
  intro r hr
  simp only [List.mem_cons, List.not_mem_nil, or_false] at hr
  rcases hr with rfl | rfl | rfl
  · exact pr_2
  · exact pr_3
  · exact pr_11)
theorem pr42 : Pr 3691 := cert (l := [(2, 0, 2), (3, 1, 2), (5, 0, 2)]) (by kernel_rfl) (by
  intro r hr
  simp only [List.mem_cons, List.not_mem_nil, or_false] at hr
  rcases hr with rfl | rfl | rfl
  · exact pr_2
  · exact pr_3
  · exact pr_5)
theorem pr43 : Pr 405928799 := cert (l := [(11, 0, 2), (3691, 0, 2)]) (by kernel_rfl) (by
  intro r hr
  simp only [List.mem_cons, List.not_mem_nil, or_false] at hr
  rcases hr with rfl | rfl
  · exact pr_11
  · exact pr42)
theorem pr_661 : Pr 661 := small (by kernel_rfl)
theorem pr45 : Pr 12048837557 := cert (l := [(2, 1, 2), (7, 1, 2), (661, 0, 2)]) (by kernel_rfl) (by
  intro r hr
  simp only [List.mem_cons, List.not_mem_nil, or_false] at hr
  rcases hr with rfl | rfl | rfl
  · exact pr_2
  · exact pr_7
  · exact pr_661)
theorem pr46 : Pr 5156902474397 := cert (l := [(12048837557, 0, 2)]) (by kernel_rfl) (by
  intro r hr
  simp only [List.mem_cons, List.not_mem_nil, or_false] at hr
  rcases hr with rfl
  · exact pr45)
theorem pr47 : Pr 1670836401704629 := cert (l := [(5156902474397, 0, 2)]) (by kernel_rfl) (by
  intro r hr
  simp only [List.mem_cons, List.not_mem_nil, or_false] at hr
  rcases hr with rfl
  · exact pr46)
theorem pr48 : Pr 21888242871839275222246405745257275088548364400416034343698204186575808495617 := cert (l := [(13, 0, 5), (29, 0, 2), (983, 0, 2), (11003, 0, 2), (237073, 0, 2), (405928799, 0, 2), (1670836401704629, 0, 2)]) (by kernel_rfl) (by
  intro r hr
  simp only [List.mem_cons, List.not_mem_nil, or_false] at hr
  rcases hr with rfl | rfl | rfl | rfl | rfl | rfl | rfl
  · exact pr_13
  · exact pr_29
  · exact pr_983
  · exact pr40
  · exact pr41
  · exact pr43
  · exact pr47)
theorem prime_bnR : Pr 21888242871839275222246405745257275088548364400416034343698204186575808495617 := pr48
theorem pr49 : Pr 10177 := cert (l := [(2, 5, 5), (3, 0, 2)]) (by kernel_rfl) (by
  intro r hr
  simp only [List.mem_cons, List.not_mem_nil, or_false] at hr
  rcases hr with rfl | rfl
  · exact pr_2
  · exact pr_3)
theorem pr_523 : Pr 523 := small (by kernel_rfl)
theorem pr51 : Pr 20921 := cert (l := [(523, 0, 2)]) (by kernel_rfl) (by
  intro r hr
  simp only [List.mem_cons, List.not_mem_nil, or_false] at hr
  rcases hr with rfl
  · exact pr_523)
theorem pr52 : Pr 125527 := cert (l := [(20921, 0, 2)]) (by kernel_rfl) (by
  intro r hr
  simp only [List.mem_cons, List.not_mem_nil, or_false] at hr
  rcases hr with rfl
  · exact pr51)
theorem pr53 : Pr 47737 := cert (l := [(3, 2, 3), (13, 0, 2)]) (by kernel_rfl) (by
  intro r hr
  simp only [List.mem_cons, List.not_mem_nil, or_false] at hr
  rcases hr with rfl | rfl
  · exact pr_3
  · exact pr_13)
theorem pr54 : Pr 859267 := cert (l := [(47737, 0, 2)]) (by kernel_rfl) (by
  intro r hr
  simp only [List.mem_cons, List.not_mem_nil, or_false] at hr
  rcases hr with rfl
  · exact pr53)
theorem pr_73 : Pr 73 := small (by kernel_rfl)
theorem pr56 : Pr 1607 := cert (l := [(73, 0, 2)]) (by kernel_rfl) (by
  intro r hr
  simp only [List.mem_cons, List.not_mem_nil, or_false] at hr
  rcases hr with rfl
  · exact pr_73)
theorem pr57 : Pr 906349 := cert (l := [(1607, 0, 2)]) (by kernel_rfl) (by
  intro r hr
  simp only [List.mem_cons, List.not_mem_nil, or_false] at hr
  rcases hr with rfl
  · exact pr56)
theorem pr58 : Pr 52435875175126190479447740508185965837690552500527637822603658699938581184513 := cert (l := [(2, 31, 5), (11, 0, 2), (19, 0, 2), (10177, 0, 2), (125527, 0, 2), (859267, 0, 2), (906349, 1, 2)]) (by kernel_rfl) (by
  intro r hr
  simp only [List.mem_cons, List.not_mem_nil, or_false] at hr
  rcases hr with rfl | rfl | rfl | rfl | rfl | rfl | rfl
  · exact pr_2
  · exact pr_11
  · exact pr_19
  · exact pr49
  · exact pr52
  · exact pr54
  · exact pr57)
theorem prime_blsR : Pr 52435875175126190479447740508185965837690552500527637822603658699938581184513 := pr58
theorem pr_113 : Pr 113 := small (by kernel_rfl)
theorem pr60 : Pr 1151 := cert (l := [(2, 0, 13), (5, 1, 2)]) (by kernel_rfl) (by
  intro r hr
  simp only [List.mem_cons, List.not_mem_nil, or_false] at hr
  rcases hr with rfl | rfl
  · exact pr_2
  · exact pr_5)
theorem pr61 : Pr 755057 := cert (l := [(1151, 0, 2)]) (by kernel_rfl) (by
  intro r hr
  simp only [List.mem_cons, List.not_mem_nil, or_false] at hr
  rcases hr with rfl
  · exact pr60)
theorem pr62 : Pr 3819663927398918131021 := cert (l := [(3, 1, 3), (5, 0, 3), (19, 0, 2), (113, 0, 2), (755057, 0, 2)]) (by kernel_rfl) (by
  intro r hr
  simp only [List.mem_cons, List.not_mem_nil, or_false] at hr
  rcases hr with rfl | rfl | rfl | rfl | rfl
  · exact pr_3
  · exact pr_5
  · exact pr_19
  · exact pr_113
  · exact pr61)
theorem pr63 : Pr 1125266252156850182658904441386709967 := cert (l := [(3819663927398918131021, 0, 2)]) (by kernel_rfl) (by
  intro r hr
  simp only [List.mem_cons, List.not_mem_nil, or_false] at hr
  rcases hr with rfl
  · exact pr62)
theorem pr64 : Pr 15778400344354997994418419698270088123916926905054652752758194827714659 := cert (l := [(1125266252156850182658904441386709967, 0, 2)]) (by kernel_rfl) (by
  intro r hr
  simp only [List.mem_cons, List.not_mem_nil, or_false] at hr
  rcases hr with rfl
  · exact pr63)
theorem pr65 : Pr 4002409555221667393417789825735904156556882819939007885332058136124031650490837864442687629129015664037894272559787 := cert (l := [(15778400344354997994418419698270088123916926905054652752758194827714659, 0, 2)]) (by kernel_rfl) (by
  intro r hr
  simp only [List.mem_cons, List.not_mem_nil, or_false] at hr
  rcases hr with rfl
  · exact pr64)
theorem prime_blsP : Pr 4002409555221667393417789825735904156556882819939007885332058136124031650490837864442687629129015664037894272559787 := pr65
end NT
