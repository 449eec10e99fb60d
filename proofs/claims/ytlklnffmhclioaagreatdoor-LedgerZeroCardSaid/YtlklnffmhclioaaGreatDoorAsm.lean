/- The call of sane returns true, in every world that holds the listed variables. -/
import Derived.Test.YtlklnffmhclioaaGreatDoorOrc
import Derived.Test.YtlklnffmhclioaaGreatDoorCompA
import Derived.Test.YtlklnffmhclioaaGreatDoorCompB
import Derived.Test.YtlklnffmhclioaaGreatDoorCompC
import Derived.Test.YtlklnffmhclioaaGreatDoorFactA
import Derived.Test.YtlklnffmhclioaaGreatDoorFactB
import Derived.Test.YtlklnffmhclioaaGreatDoorFactC
import Derived.Test.YtlklnffmhclioaaGreatDoorPA
import Derived.Test.YtlklnffmhclioaaGreatDoorPB
import Derived.Test.YtlklnffmhclioaaGreatDoorPC
import Derived.Test.YtlklnffmhclioaaGreatDoorPD
import Derived.Test.YtlklnffmhclioaaGreatDoorPE
import Derived.Test.YtlklnffmhclioaaGreatDoorPF
import Derived.KernelRfl
namespace Go.Proofs.YtlklnffmhclioaaGreatDoor.Ev
open Go.RowKit Go.Proofs
set_option maxRecDepth 100000
theorem gsz : Tryz.prog.globals.size = 7 := by kernel_rfl
noncomputable def tl0 : List (Nat × CFn) := [(4, c4), (7, c7), (8, c8), (9, c9), (10, c10), (12, c12), (13, c13), (14, c14), (15, c15), (16, c16), (17, c17), (18, c18), (19, c19), (20, c20), (21, c21), (22, c22), (23, c23), (24, c24), (25, c25), (26, c26), (27, c27), (28, c28), (29, c29), (30, c30), (31, c31), (32, c32), (33, c33), (34, c34), (35, c35), (36, c36), (37, c37), (38, c38), (39, c39), (40, c40), (41, c41), (42, c42), (43, c43), (44, c44), (45, c45), (46, c46), (47, c47), (48, c48), (49, c49), (50, c50), (51, c51), (52, c52), (53, c53), (54, c54), (55, c55), (56, c56)]
theorem at0 : AllC Tryz.prog tl0 := ⟨k4, k7, k8, k9, k10, k12, k13, k14, k15, k16, k17, k18, k19, k20, k21, k22, k23, k24, k25, k26, k27, k28, k29, k30, k31, k32, k33, k34, k35, k36, k37, k38, k39, k40, k41, k42, k43, k44, k45, k46, k47, k48, k49, k50, k51, k52, k53, k54, k55, k56, trivial⟩
noncomputable def tl1 : List (Nat × CFn) := [(57, c57), (58, c58), (59, c59), (60, c60), (65, c65), (66, c66), (67, c67), (68, c68), (70, c70), (71, c71), (72, c72), (73, c73), (74, c74), (75, c75), (76, c76), (77, c77), (79, c79), (80, c80), (81, c81), (82, c82), (83, c83), (84, c84), (85, c85), (86, c86), (87, c87), (88, c88), (89, c89), (90, c90), (91, c91), (92, c92), (93, c93), (94, c94), (95, c95), (96, c96), (97, c97), (98, c98), (99, c99), (100, c100), (101, c101), (102, c102), (103, c103), (104, c104), (105, c105), (108, c108), (109, c109), (110, c110), (112, c112), (113, c113), (120, c120), (121, c121)]
theorem at1 : AllC Tryz.prog tl1 := ⟨k57, k58, k59, k60, k65, k66, k67, k68, k70, k71, k72, k73, k74, k75, k76, k77, k79, k80, k81, k82, k83, k84, k85, k86, k87, k88, k89, k90, k91, k92, k93, k94, k95, k96, k97, k98, k99, k100, k101, k102, k103, k104, k105, k108, k109, k110, k112, k113, k120, k121, trivial⟩
noncomputable def tl2 : List (Nat × CFn) := [(122, c122), (123, c123), (124, c124), (125, c125), (126, c126), (127, c127), (130, c130), (131, c131), (132, c132), (133, c133), (134, c134), (135, c135), (138, c138), (139, c139), (140, c140), (141, c141), (142, c142), (143, c143), (144, c144), (145, c145), (146, c146), (147, c147), (148, c148), (149, c149), (150, c150), (151, c151), (152, c152), (153, c153), (154, c154), (155, c155), (156, c156), (157, c157), (158, c158), (159, c159), (160, c160), (161, c161), (162, c162), (163, c163), (164, c164), (165, c165), (166, c166), (168, c168), (169, c169), (170, c170), (171, c171), (172, c172), (173, c173), (174, c174), (175, c175), (176, c176)]
theorem at2 : AllC Tryz.prog tl2 := ⟨k122, k123, k124, k125, k126, k127, k130, k131, k132, k133, k134, k135, k138, k139, k140, k141, k142, k143, k144, k145, k146, k147, k148, k149, k150, k151, k152, k153, k154, k155, k156, k157, k158, k159, k160, k161, k162, k163, k164, k165, k166, k168, k169, k170, k171, k172, k173, k174, k175, k176, trivial⟩
noncomputable def tl3 : List (Nat × CFn) := [(177, c177), (178, c178), (179, c179), (180, c180), (181, c181), (184, c184), (185, c185), (186, c186), (191, c191), (192, c192), (193, c193), (194, c194), (195, c195), (199, c199), (200, c200), (201, c201), (203, c203), (215, c215), (216, c216), (217, c217), (227, c227), (228, c228), (230, c230), (231, c231), (232, c232), (233, c233), (234, c234), (235, c235), (236, c236), (237, c237), (238, c238), (239, c239), (240, c240), (241, c241), (242, c242), (243, c243), (244, c244), (245, c245), (247, c247), (248, c248), (249, c249), (250, c250), (251, c251), (252, c252), (261, c261), (263, c263), (264, c264), (265, c265), (266, c266), (267, c267)]
theorem at3 : AllC Tryz.prog tl3 := ⟨k177, k178, k179, k180, k181, k184, k185, k186, k191, k192, k193, k194, k195, k199, k200, k201, k203, k215, k216, k217, k227, k228, k230, k231, k232, k233, k234, k235, k236, k237, k238, k239, k240, k241, k242, k243, k244, k245, k247, k248, k249, k250, k251, k252, k261, k263, k264, k265, k266, k267, trivial⟩
noncomputable def tl4 : List (Nat × CFn) := [(268, c268), (269, c269), (270, c270), (271, c271), (272, c272), (273, c273), (274, c274), (275, c275), (276, c276), (277, c277), (278, c278), (279, c279), (280, c280), (281, c281), (282, c282), (283, c283), (284, c284), (285, c285), (286, c286), (287, c287), (288, c288), (289, c289), (290, c290), (291, c291), (292, c292), (293, c293), (294, c294), (295, c295), (296, c296), (297, c297), (298, c298), (299, c299), (300, c300), (301, c301), (302, c302), (303, c303), (304, c304), (305, c305), (306, c306), (307, c307), (311, c311), (327, c327), (333, c333), (341, c341), (349, c349), (350, c350), (352, c352), (353, c353), (354, c354), (355, c355)]
theorem at4 : AllC Tryz.prog tl4 := ⟨k268, k269, k270, k271, k272, k273, k274, k275, k276, k277, k278, k279, k280, k281, k282, k283, k284, k285, k286, k287, k288, k289, k290, k291, k292, k293, k294, k295, k296, k297, k298, k299, k300, k301, k302, k303, k304, k305, k306, k307, k311, k327, k333, k341, k349, k350, k352, k353, k354, k355, trivial⟩
noncomputable def tl5 : List (Nat × CFn) := [(357, c357), (358, c358), (365, c365), (366, c366), (367, c367), (368, c368), (369, c369), (375, c375), (377, c377), (379, c379), (380, c380), (381, c381), (382, c382), (383, c383), (384, c384), (385, c385), (386, c386), (387, c387), (388, c388), (389, c389), (390, c390), (391, c391), (392, c392), (393, c393), (394, c394), (396, c396), (398, c398), (399, c399), (400, c400), (401, c401), (422, c422), (423, c423), (424, c424), (425, c425), (426, c426), (427, c427), (428, c428), (437, c437), (439, c439), (440, c440), (442, c442), (443, c443), (451, c451), (452, c452), (453, c453), (467, c467), (476, c476)]
theorem at5 : AllC Tryz.prog tl5 := ⟨k357, k358, k365, k366, k367, k368, k369, k375, k377, k379, k380, k381, k382, k383, k384, k385, k386, k387, k388, k389, k390, k391, k392, k393, k394, k396, k398, k399, k400, k401, k422, k423, k424, k425, k426, k427, k428, k437, k439, k440, k442, k443, k451, k452, k453, k467, k476, trivial⟩
theorem AllC.app {Pr : Program} : ∀ {l m : List (Nat × CFn)}, AllC Pr l → AllC Pr m → AllC Pr (l ++ m)
  | [], _, _, k => k
  | _ :: _, _, h, k => ⟨h.1, AllC.app h.2 k⟩
theorem tl_is : (tl0 ++ (tl1 ++ (tl2 ++ (tl3 ++ (tl4 ++ tl5))))) = tl := by kernel_rfl
theorem atl : AllC Tryz.prog tl := by rw [← tl_is]; exact (AllC.app at0 (AllC.app at1 (AllC.app at2 (AllC.app at3 (AllC.app at4 at5)))))
def FactsOk (Pr : Program) (G f : Nat) : List Fact → Prop
  | [] => True
  | d :: r => FactOk Pr G f d ∧ FactsOk Pr G f r
theorem FactsOk.mem {Pr : Program} {G f : Nat} : ∀ {l : List Fact}, FactsOk Pr G f l → ∀ d ∈ l, FactOk Pr G f d
  | x :: l, k, d, h => by
    cases h with
    | head => exact k.1
    | tail _ h => exact k.2.mem d h
theorem af0 : AllF Tryz.prog 7 fl0 := trivial
theorem ok0 : EnvOk Tryz.prog E0 := envOf_ok (Nat.le_of_eq gsz) atl af0 orcC
theorem fo0 : FactOk Tryz.prog 7 103 fc0 := ⟨⟨c103, k103⟩, fa0, E0, ok0, endsB_sound _ fk0⟩
theorem af1 : AllF Tryz.prog 7 fl1 := ⟨(show FactsOk Tryz.prog 7 103 [fc0] from ⟨fo0, trivial⟩).mem, trivial⟩
theorem ok1 : EnvOk Tryz.prog E1 := envOf_ok (Nat.le_of_eq gsz) atl af1 orcC
theorem fo1 : FactOk Tryz.prog 7 44 fc1 := ⟨⟨c44, k44⟩, fa1, E1, ok1, endsB_sound _ fk1⟩
theorem af2 : AllF Tryz.prog 7 fl2 := ⟨(show FactsOk Tryz.prog 7 103 [fc0] from ⟨fo0, trivial⟩).mem, (show FactsOk Tryz.prog 7 44 [fc1] from ⟨fo1, trivial⟩).mem, trivial⟩
theorem ok2 : EnvOk Tryz.prog E2 := envOf_ok (Nat.le_of_eq gsz) atl af2 orcC
theorem fo2 : FactOk Tryz.prog 7 39 fc2 := ⟨⟨c39, k39⟩, fa2, E2, ok2, endsB_sound _ fk2⟩
theorem fo3 : FactOk Tryz.prog 7 40 fc3 := ⟨⟨c40, k40⟩, fa3, E2, ok2, endsB_sound _ fk3⟩
theorem fo5 : FactOk Tryz.prog 7 145 fc5 := ⟨⟨c145, k145⟩, fa5, E2, ok2, endsB_sound _ fk5⟩
theorem fo6 : FactOk Tryz.prog 7 241 fc6 := ⟨⟨c241, k241⟩, fa6, E2, ok2, endsB_sound _ fk6⟩
theorem fo11 : FactOk Tryz.prog 7 40 fc11 := ⟨⟨c40, k40⟩, fa11, E2, ok2, endsB_sound _ fk11⟩
theorem fo12 : FactOk Tryz.prog 7 40 fc12 := ⟨⟨c40, k40⟩, fa12, E2, ok2, endsB_sound _ fk12⟩
theorem fo13 : FactOk Tryz.prog 7 40 fc13 := ⟨⟨c40, k40⟩, fa13, E2, ok2, endsB_sound _ fk13⟩
theorem fo14 : FactOk Tryz.prog 7 40 fc14 := ⟨⟨c40, k40⟩, fa14, E2, ok2, endsB_sound _ fk14⟩
theorem fo15 : FactOk Tryz.prog 7 40 fc15 := ⟨⟨c40, k40⟩, fa15, E2, ok2, endsB_sound _ fk15⟩
theorem fo23 : FactOk Tryz.prog 7 40 fc23 := ⟨⟨c40, k40⟩, fa23, E2, ok2, endsB_sound _ fk23⟩
theorem fo27 : FactOk Tryz.prog 7 181 fc27 := ⟨⟨c181, k181⟩, fa27, E2, ok2, endsB_sound _ fk27⟩
theorem fo28 : FactOk Tryz.prog 7 181 fc28 := ⟨⟨c181, k181⟩, fa28, E2, ok2, endsB_sound _ fk28⟩
theorem fo31 : FactOk Tryz.prog 7 181 fc31 := ⟨⟨c181, k181⟩, fa31, E2, ok2, endsB_sound _ fk31⟩
theorem fo32 : FactOk Tryz.prog 7 181 fc32 := ⟨⟨c181, k181⟩, fa32, E2, ok2, endsB_sound _ fk32⟩
theorem af3 : AllF Tryz.prog 7 fl3 := ⟨(show FactsOk Tryz.prog 7 103 [fc0] from ⟨fo0, trivial⟩).mem, (show FactsOk Tryz.prog 7 44 [fc1] from ⟨fo1, trivial⟩).mem, (show FactsOk Tryz.prog 7 39 [fc2] from ⟨fo2, trivial⟩).mem, (show FactsOk Tryz.prog 7 40 [fc3, fc11, fc12, fc13, fc14, fc15, fc23] from ⟨fo3, fo11, fo12, fo13, fo14, fo15, fo23, trivial⟩).mem, (show FactsOk Tryz.prog 7 145 [fc5] from ⟨fo5, trivial⟩).mem, (show FactsOk Tryz.prog 7 241 [fc6] from ⟨fo6, trivial⟩).mem, (show FactsOk Tryz.prog 7 181 [fc27, fc28, fc31, fc32] from ⟨fo27, fo28, fo31, fo32, trivial⟩).mem, trivial⟩
theorem ok3 : EnvOk Tryz.prog E3 := envOf_ok (Nat.le_of_eq gsz) atl af3 orcC
theorem fo4 : FactOk Tryz.prog 7 18 fc4 := ⟨⟨c18, k18⟩, fa4, E3, ok3, endsB_sound _ fk4⟩
theorem fo7 : FactOk Tryz.prog 7 72 fc7 := ⟨⟨c72, k72⟩, fa7, E3, ok3, endsB_sound _ fk7⟩
theorem fo8 : FactOk Tryz.prog 7 72 fc8 := ⟨⟨c72, k72⟩, fa8, E3, ok3, endsB_sound _ fk8⟩
theorem fo9 : FactOk Tryz.prog 7 72 fc9 := ⟨⟨c72, k72⟩, fa9, E3, ok3, endsB_sound _ fk9⟩
theorem fo10 : FactOk Tryz.prog 7 72 fc10 := ⟨⟨c72, k72⟩, fa10, E3, ok3, endsB_sound _ fk10⟩
theorem fo16 : FactOk Tryz.prog 7 72 fc16 := ⟨⟨c72, k72⟩, fa16, E3, ok3, endsB_sound _ fk16⟩
theorem fo17 : FactOk Tryz.prog 7 72 fc17 := ⟨⟨c72, k72⟩, fa17, E3, ok3, endsB_sound _ fk17⟩
theorem fo18 : FactOk Tryz.prog 7 72 fc18 := ⟨⟨c72, k72⟩, fa18, E3, ok3, endsB_sound _ fk18⟩
theorem fo19 : FactOk Tryz.prog 7 72 fc19 := ⟨⟨c72, k72⟩, fa19, E3, ok3, endsB_sound _ fk19⟩
theorem fo20 : FactOk Tryz.prog 7 72 fc20 := ⟨⟨c72, k72⟩, fa20, E3, ok3, endsB_sound _ fk20⟩
theorem fo21 : FactOk Tryz.prog 7 72 fc21 := ⟨⟨c72, k72⟩, fa21, E3, ok3, endsB_sound _ fk21⟩
theorem fo22 : FactOk Tryz.prog 7 72 fc22 := ⟨⟨c72, k72⟩, fa22, E3, ok3, endsB_sound _ fk22⟩
theorem fo24 : FactOk Tryz.prog 7 18 fc24 := ⟨⟨c18, k18⟩, fa24, E3, ok3, endsB_sound _ fk24⟩
theorem fo26 : FactOk Tryz.prog 7 72 fc26 := ⟨⟨c72, k72⟩, fa26, E3, ok3, endsB_sound _ fk26⟩
theorem fo29 : FactOk Tryz.prog 7 180 fc29 := ⟨⟨c180, k180⟩, fa29, E3, ok3, endsB_sound _ fk29⟩
theorem fo30 : FactOk Tryz.prog 7 72 fc30 := ⟨⟨c72, k72⟩, fa30, E3, ok3, endsB_sound _ fk30⟩
theorem fo33 : FactOk Tryz.prog 7 180 fc33 := ⟨⟨c180, k180⟩, fa33, E3, ok3, endsB_sound _ fk33⟩
theorem af4 : AllF Tryz.prog 7 fl4 := ⟨(show FactsOk Tryz.prog 7 103 [fc0] from ⟨fo0, trivial⟩).mem, (show FactsOk Tryz.prog 7 44 [fc1] from ⟨fo1, trivial⟩).mem, (show FactsOk Tryz.prog 7 39 [fc2] from ⟨fo2, trivial⟩).mem, (show FactsOk Tryz.prog 7 40 [fc3, fc11, fc12, fc13, fc14, fc15, fc23] from ⟨fo3, fo11, fo12, fo13, fo14, fo15, fo23, trivial⟩).mem, (show FactsOk Tryz.prog 7 18 [fc4, fc24] from ⟨fo4, fo24, trivial⟩).mem, (show FactsOk Tryz.prog 7 145 [fc5] from ⟨fo5, trivial⟩).mem, (show FactsOk Tryz.prog 7 241 [fc6] from ⟨fo6, trivial⟩).mem, (show FactsOk Tryz.prog 7 72 [fc7, fc8, fc9, fc10, fc16, fc17, fc18, fc19, fc20, fc21, fc22, fc26, fc30] from ⟨fo7, fo8, fo9, fo10, fo16, fo17, fo18, fo19, fo20, fo21, fo22, fo26, fo30, trivial⟩).mem, (show FactsOk Tryz.prog 7 181 [fc27, fc28, fc31, fc32] from ⟨fo27, fo28, fo31, fo32, trivial⟩).mem, (show FactsOk Tryz.prog 7 180 [fc29, fc33] from ⟨fo29, fo33, trivial⟩).mem, trivial⟩
theorem ok4 : EnvOk Tryz.prog E4 := envOf_ok (Nat.le_of_eq gsz) atl af4 orcC
theorem fo25 : FactOk Tryz.prog 7 21 fc25 := ⟨⟨c21, k21⟩, fa25, E4, ok4, endsB_sound _ fk25⟩
theorem af5 : AllF Tryz.prog 7 fl5 := ⟨(show FactsOk Tryz.prog 7 103 [fc0] from ⟨fo0, trivial⟩).mem, (show FactsOk Tryz.prog 7 44 [fc1] from ⟨fo1, trivial⟩).mem, (show FactsOk Tryz.prog 7 39 [fc2] from ⟨fo2, trivial⟩).mem, (show FactsOk Tryz.prog 7 40 [fc3, fc11, fc12, fc13, fc14, fc15, fc23] from ⟨fo3, fo11, fo12, fo13, fo14, fo15, fo23, trivial⟩).mem, (show FactsOk Tryz.prog 7 18 [fc4, fc24] from ⟨fo4, fo24, trivial⟩).mem, (show FactsOk Tryz.prog 7 145 [fc5] from ⟨fo5, trivial⟩).mem, (show FactsOk Tryz.prog 7 241 [fc6] from ⟨fo6, trivial⟩).mem, (show FactsOk Tryz.prog 7 72 [fc7, fc8, fc9, fc10, fc16, fc17, fc18, fc19, fc20, fc21, fc22, fc26, fc30] from ⟨fo7, fo8, fo9, fo10, fo16, fo17, fo18, fo19, fo20, fo21, fo22, fo26, fo30, trivial⟩).mem, (show FactsOk Tryz.prog 7 21 [fc25] from ⟨fo25, trivial⟩).mem, (show FactsOk Tryz.prog 7 181 [fc27, fc28, fc31, fc32] from ⟨fo27, fo28, fo31, fo32, trivial⟩).mem, (show FactsOk Tryz.prog 7 180 [fc29, fc33] from ⟨fo29, fo33, trivial⟩).mem, trivial⟩
theorem ok5 : EnvOk Tryz.prog E5 := envOf_ok (Nat.le_of_eq gsz) atl af5 orcC
theorem es5 : Ends E5 (fun p v h => factQ (P.slot 4) (.bool true) p v h = true) st5 := endsB_sound _ pc5
theorem es4 : Ends E5 (fun p v h => factQ (P.slot 4) (.bool true) p v h = true) st4 := piece pc4 es5
theorem es3 : Ends E5 (fun p v h => factQ (P.slot 4) (.bool true) p v h = true) st3 := piece pc3 es4
theorem es2 : Ends E5 (fun p v h => factQ (P.slot 4) (.bool true) p v h = true) st2 := piece pc2 es3
theorem es1 : Ends E5 (fun p v h => factQ (P.slot 4) (.bool true) p v h = true) st1 := piece pc1 es2
theorem es0 : Ends E5 (fun p v h => factQ (P.slot 4) (.bool true) p v h = true) st0 := piece pc0 es1
theorem q7_is : q7 = P.slot Tryz.prog.globals.size := by rw [gsz]; exact (show P.slot 7 = q7 by kernel_rfl).symm
/-- SANE: played by the kernel -/
theorem sane_calls {w : World} (hsz : Tryz.prog.globals.size ≤ w.heap.size) (hq : Q0 Tryz.prog w.heap.size w)
    (hl : ∀ p cs, (p, cs) ∈ glM → p.toNat < Tryz.prog.globals.size ∧ ∀ ρ, O Tryz.prog ρ w.heap[p.toNat]? (.cells false cs) ⟨p.toNat, 0, 0, 0⟩) :
    Calls Tryz.prog 4 #[] w fun e w' => e = .returned (.bool true) ∧ Below w.heap.size w w' := by
  have he : Ends E5 (fun p v h => factQ (P.slot 4) (.bool true) p v h = true) (enterA E5 false (P.slot 4) [] [] (mkH (P.slot Tryz.prog.globals.size) glM)) := by
    rw [← q7_is]; exact es0
  refine (calls_of_ends ok5 he (fun p v h' hq => by simp only [factQ, Bool.and_eq_true, decide_eq_true_eq] at hq; exact hq.1) (WR.begin hsz hq hl) (GL.begin _) (vs := #[]) .nil).mono ?_
  rintro e w' ⟨v, v', h', ρ', rfl, q1, q2, q3⟩
  refine ⟨?_, q3.below⟩
  simp only [factQ, Bool.and_eq_true] at q1
  rw [eqV_sound q1.2] at q2
  cases q2
  rfl
end Go.Proofs.YtlklnffmhclioaaGreatDoor.Ev

