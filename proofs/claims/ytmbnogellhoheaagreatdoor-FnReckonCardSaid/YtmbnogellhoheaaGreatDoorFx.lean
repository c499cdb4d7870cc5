/- The functions and the types that a law reaches, with the facts on them that the evaluator asks. -/
import Derived.Test.YtmbnogellhoheaaGreatDoorEvYa
import Derived.Test.YtmbnogellhoheaaGreatDoorRows
namespace Go.Proofs.YtmbnogellhoheaaGreatDoor.Run
open Go Go.Proofs.YtmbnogellhoheaaGreatDoor.Ev
open Go.Proofs.YtmbnogellhoheaaGreatDoor
noncomputable def tyl0 : List (Nat × TypeInfo) := [(0, Tryz.t0), (1, Tryz.t1), (2, Tryz.t2), (3, Tryz.t3), (4, Tryz.t4), (5, Tryz.t5), (6, Tryz.t6), (7, Tryz.t7), (8, Tryz.t8), (9, Tryz.t9), (10, Tryz.t10), (11, Tryz.t11), (12, Tryz.t12), (13, Tryz.t13), (14, Tryz.t14), (15, Tryz.t15), (16, Tryz.t16), (17, Tryz.t17), (18, Tryz.t18), (19, Tryz.t19), (20, Tryz.t20), (21, Tryz.t21), (22, Tryz.t22), (23, Tryz.t23), (24, Tryz.t24), (25, Tryz.t25), (26, Tryz.t26), (27, Tryz.t27), (28, Tryz.t28), (29, Tryz.t29), (30, Tryz.t30), (31, Tryz.t31), (32, Tryz.t32), (33, Tryz.t33), (34, Tryz.t34), (35, Tryz.t35), (36, Tryz.t36), (37, Tryz.t37), (38, Tryz.t38), (39, Tryz.t39)]
theorem tyl0_ok : AllI Tryz.prog tyl0 := (.cons Tryz.type0 (.cons Tryz.type1 (.cons Tryz.type2 (.cons Tryz.type3 (.cons Tryz.type4 (.cons Tryz.type5 (.cons Tryz.type6 (.cons Tryz.type7 (.cons Tryz.type8 (.cons Tryz.type9 (.cons Tryz.type10 (.cons Tryz.type11 (.cons Tryz.type12 (.cons Tryz.type13 (.cons Tryz.type14 (.cons Tryz.type15 (.cons Tryz.type16 (.cons Tryz.type17 (.cons Tryz.type18 (.cons Tryz.type19 (.cons Tryz.type20 (.cons Tryz.type21 (.cons Tryz.type22 (.cons Tryz.type23 (.cons Tryz.type24 (.cons Tryz.type25 (.cons Tryz.type26 (.cons Tryz.type27 (.cons Tryz.type28 (.cons Tryz.type29 (.cons Tryz.type30 (.cons Tryz.type31 (.cons Tryz.type32 (.cons Tryz.type33 (.cons Tryz.type34 (.cons Tryz.type35 (.cons Tryz.type36 (.cons Tryz.type37 (.cons Tryz.type38 (.cons Tryz.type39 .nil))))))))))))))))))))))))))))))))))))))))
noncomputable def tyl1 : List (Nat × TypeInfo) := [(40, Tryz.t40), (41, Tryz.t41), (42, Tryz.t42), (43, Tryz.t43), (44, Tryz.t44), (45, Tryz.t45), (46, Tryz.t46), (47, Tryz.t47), (48, Tryz.t48), (49, Tryz.t49), (50, Tryz.t50), (51, Tryz.t51), (52, Tryz.t52), (53, Tryz.t53), (54, Tryz.t54), (55, Tryz.t55), (56, Tryz.t56), (57, Tryz.t57), (58, Tryz.t58), (59, Tryz.t59), (60, Tryz.t60), (61, Tryz.t61), (62, Tryz.t62), (63, Tryz.t63), (64, Tryz.t64), (65, Tryz.t65), (66, Tryz.t66), (67, Tryz.t67), (68, Tryz.t68), (69, Tryz.t69), (70, Tryz.t70), (71, Tryz.t71), (72, Tryz.t72), (73, Tryz.t73), (74, Tryz.t74), (75, Tryz.t75), (76, Tryz.t76), (77, Tryz.t77), (78, Tryz.t78), (79, Tryz.t79)]
theorem tyl1_ok : AllI Tryz.prog tyl1 := (.cons Tryz.type40 (.cons Tryz.type41 (.cons Tryz.type42 (.cons Tryz.type43 (.cons Tryz.type44 (.cons Tryz.type45 (.cons Tryz.type46 (.cons Tryz.type47 (.cons Tryz.type48 (.cons Tryz.type49 (.cons Tryz.type50 (.cons Tryz.type51 (.cons Tryz.type52 (.cons Tryz.type53 (.cons Tryz.type54 (.cons Tryz.type55 (.cons Tryz.type56 (.cons Tryz.type57 (.cons Tryz.type58 (.cons Tryz.type59 (.cons Tryz.type60 (.cons Tryz.type61 (.cons Tryz.type62 (.cons Tryz.type63 (.cons Tryz.type64 (.cons Tryz.type65 (.cons Tryz.type66 (.cons Tryz.type67 (.cons Tryz.type68 (.cons Tryz.type69 (.cons Tryz.type70 (.cons Tryz.type71 (.cons Tryz.type72 (.cons Tryz.type73 (.cons Tryz.type74 (.cons Tryz.type75 (.cons Tryz.type76 (.cons Tryz.type77 (.cons Tryz.type78 (.cons Tryz.type79 .nil))))))))))))))))))))))))))))))))))))))))
noncomputable def tyl2 : List (Nat × TypeInfo) := [(80, Tryz.t80), (81, Tryz.t81), (82, Tryz.t82), (83, Tryz.t83), (84, Tryz.t84), (85, Tryz.t85), (86, Tryz.t86), (87, Tryz.t87), (88, Tryz.t88), (89, Tryz.t89), (90, Tryz.t90), (91, Tryz.t91), (92, Tryz.t92), (93, Tryz.t93), (94, Tryz.t94), (95, Tryz.t95), (96, Tryz.t96), (97, Tryz.t97), (98, Tryz.t98), (99, Tryz.t99), (100, Tryz.t100), (101, Tryz.t101), (102, Tryz.t102), (103, Tryz.t103), (104, Tryz.t104), (105, Tryz.t105), (106, Tryz.t106), (107, Tryz.t107), (108, Tryz.t108), (109, Tryz.t109), (110, Tryz.t110), (111, Tryz.t111), (112, Tryz.t112), (113, Tryz.t113), (114, Tryz.t114), (115, Tryz.t115), (116, Tryz.t116), (117, Tryz.t117), (118, Tryz.t118), (119, Tryz.t119)]
theorem tyl2_ok : AllI Tryz.prog tyl2 := (.cons Tryz.type80 (.cons Tryz.type81 (.cons Tryz.type82 (.cons Tryz.type83 (.cons Tryz.type84 (.cons Tryz.type85 (.cons Tryz.type86 (.cons Tryz.type87 (.cons Tryz.type88 (.cons Tryz.type89 (.cons Tryz.type90 (.cons Tryz.type91 (.cons Tryz.type92 (.cons Tryz.type93 (.cons Tryz.type94 (.cons Tryz.type95 (.cons Tryz.type96 (.cons Tryz.type97 (.cons Tryz.type98 (.cons Tryz.type99 (.cons Tryz.type100 (.cons Tryz.type101 (.cons Tryz.type102 (.cons Tryz.type103 (.cons Tryz.type104 (.cons Tryz.type105 (.cons Tryz.type106 (.cons Tryz.type107 (.cons Tryz.type108 (.cons Tryz.type109 (.cons Tryz.type110 (.cons Tryz.type111 (.cons Tryz.type112 (.cons Tryz.type113 (.cons Tryz.type114 (.cons Tryz.type115 (.cons Tryz.type116 (.cons Tryz.type117 (.cons Tryz.type118 (.cons Tryz.type119 .nil))))))))))))))))))))))))))))))))))))))))
noncomputable def tyl3 : List (Nat × TypeInfo) := [(120, Tryz.t120), (121, Tryz.t121), (122, Tryz.t122), (123, Tryz.t123), (124, Tryz.t124), (125, Tryz.t125), (126, Tryz.t126), (127, Tryz.t127), (128, Tryz.t128), (129, Tryz.t129), (130, Tryz.t130), (131, Tryz.t131), (132, Tryz.t132), (133, Tryz.t133), (134, Tryz.t134), (135, Tryz.t135), (136, Tryz.t136), (137, Tryz.t137), (138, Tryz.t138), (139, Tryz.t139), (140, Tryz.t140), (141, Tryz.t141), (142, Tryz.t142), (143, Tryz.t143), (144, Tryz.t144), (145, Tryz.t145), (146, Tryz.t146), (147, Tryz.t147), (148, Tryz.t148), (149, Tryz.t149), (150, Tryz.t150), (151, Tryz.t151), (152, Tryz.t152), (153, Tryz.t153), (154, Tryz.t154), (155, Tryz.t155), (156, Tryz.t156), (157, Tryz.t157), (158, Tryz.t158), (159, Tryz.t159)]
theorem tyl3_ok : AllI Tryz.prog tyl3 := (.cons Tryz.type120 (.cons Tryz.type121 (.cons Tryz.type122 (.cons Tryz.type123 (.cons Tryz.type124 (.cons Tryz.type125 (.cons Tryz.type126 (.cons Tryz.type127 (.cons Tryz.type128 (.cons Tryz.type129 (.cons Tryz.type130 (.cons Tryz.type131 (.cons Tryz.type132 (.cons Tryz.type133 (.cons Tryz.type134 (.cons Tryz.type135 (.cons Tryz.type136 (.cons Tryz.type137 (.cons Tryz.type138 (.cons Tryz.type139 (.cons Tryz.type140 (.cons Tryz.type141 (.cons Tryz.type142 (.cons Tryz.type143 (.cons Tryz.type144 (.cons Tryz.type145 (.cons Tryz.type146 (.cons Tryz.type147 (.cons Tryz.type148 (.cons Tryz.type149 (.cons Tryz.type150 (.cons Tryz.type151 (.cons Tryz.type152 (.cons Tryz.type153 (.cons Tryz.type154 (.cons Tryz.type155 (.cons Tryz.type156 (.cons Tryz.type157 (.cons Tryz.type158 (.cons Tryz.type159 .nil))))))))))))))))))))))))))))))))))))))))
noncomputable def tyl4 : List (Nat × TypeInfo) := [(160, Tryz.t160), (161, Tryz.t161), (162, Tryz.t162), (163, Tryz.t163), (164, Tryz.t164), (165, Tryz.t165), (166, Tryz.t166), (167, Tryz.t167), (168, Tryz.t168), (169, Tryz.t169), (170, Tryz.t170), (171, Tryz.t171), (172, Tryz.t172), (173, Tryz.t173), (174, Tryz.t174), (175, Tryz.t175), (176, Tryz.t176), (177, Tryz.t177), (178, Tryz.t178), (179, Tryz.t179), (180, Tryz.t180), (181, Tryz.t181), (182, Tryz.t182), (183, Tryz.t183), (184, Tryz.t184), (185, Tryz.t185), (186, Tryz.t186), (187, Tryz.t187), (188, Tryz.t188), (189, Tryz.t189), (190, Tryz.t190), (191, Tryz.t191), (192, Tryz.t192), (193, Tryz.t193), (194, Tryz.t194), (195, Tryz.t195), (196, Tryz.t196), (197, Tryz.t197), (198, Tryz.t198), (199, Tryz.t199)]
theorem tyl4_ok : AllI Tryz.prog tyl4 := (.cons Tryz.type160 (.cons Tryz.type161 (.cons Tryz.type162 (.cons Tryz.type163 (.cons Tryz.type164 (.cons Tryz.type165 (.cons Tryz.type166 (.cons Tryz.type167 (.cons Tryz.type168 (.cons Tryz.type169 (.cons Tryz.type170 (.cons Tryz.type171 (.cons Tryz.type172 (.cons Tryz.type173 (.cons Tryz.type174 (.cons Tryz.type175 (.cons Tryz.type176 (.cons Tryz.type177 (.cons Tryz.type178 (.cons Tryz.type179 (.cons Tryz.type180 (.cons Tryz.type181 (.cons Tryz.type182 (.cons Tryz.type183 (.cons Tryz.type184 (.cons Tryz.type185 (.cons Tryz.type186 (.cons Tryz.type187 (.cons Tryz.type188 (.cons Tryz.type189 (.cons Tryz.type190 (.cons Tryz.type191 (.cons Tryz.type192 (.cons Tryz.type193 (.cons Tryz.type194 (.cons Tryz.type195 (.cons Tryz.type196 (.cons Tryz.type197 (.cons Tryz.type198 (.cons Tryz.type199 .nil))))))))))))))))))))))))))))))))))))))))
noncomputable def tyl5 : List (Nat × TypeInfo) := [(200, Tryz.t200), (201, Tryz.t201), (202, Tryz.t202), (203, Tryz.t203), (204, Tryz.t204), (205, Tryz.t205), (206, Tryz.t206), (207, Tryz.t207), (208, Tryz.t208), (209, Tryz.t209), (210, Tryz.t210), (211, Tryz.t211), (212, Tryz.t212), (213, Tryz.t213), (214, Tryz.t214), (215, Tryz.t215), (216, Tryz.t216), (217, Tryz.t217), (218, Tryz.t218), (219, Tryz.t219), (220, Tryz.t220), (221, Tryz.t221), (222, Tryz.t222), (223, Tryz.t223), (224, Tryz.t224), (225, Tryz.t225), (226, Tryz.t226), (227, Tryz.t227), (228, Tryz.t228), (229, Tryz.t229), (230, Tryz.t230), (231, Tryz.t231), (232, Tryz.t232), (233, Tryz.t233), (234, Tryz.t234), (235, Tryz.t235), (236, Tryz.t236), (237, Tryz.t237), (238, Tryz.t238), (239, Tryz.t239)]
theorem tyl5_ok : AllI Tryz.prog tyl5 := (.cons Tryz.type200 (.cons Tryz.type201 (.cons Tryz.type202 (.cons Tryz.type203 (.cons Tryz.type204 (.cons Tryz.type205 (.cons Tryz.type206 (.cons Tryz.type207 (.cons Tryz.type208 (.cons Tryz.type209 (.cons Tryz.type210 (.cons Tryz.type211 (.cons Tryz.type212 (.cons Tryz.type213 (.cons Tryz.type214 (.cons Tryz.type215 (.cons Tryz.type216 (.cons Tryz.type217 (.cons Tryz.type218 (.cons Tryz.type219 (.cons Tryz.type220 (.cons Tryz.type221 (.cons Tryz.type222 (.cons Tryz.type223 (.cons Tryz.type224 (.cons Tryz.type225 (.cons Tryz.type226 (.cons Tryz.type227 (.cons Tryz.type228 (.cons Tryz.type229 (.cons Tryz.type230 (.cons Tryz.type231 (.cons Tryz.type232 (.cons Tryz.type233 (.cons Tryz.type234 (.cons Tryz.type235 (.cons Tryz.type236 (.cons Tryz.type237 (.cons Tryz.type238 (.cons Tryz.type239 .nil))))))))))))))))))))))))))))))))))))))))
noncomputable def tyl6 : List (Nat × TypeInfo) := [(240, Tryz.t240), (241, Tryz.t241), (242, Tryz.t242), (243, Tryz.t243), (244, Tryz.t244), (245, Tryz.t245), (246, Tryz.t246), (247, Tryz.t247), (248, Tryz.t248), (249, Tryz.t249), (250, Tryz.t250), (251, Tryz.t251), (252, Tryz.t252), (253, Tryz.t253), (254, Tryz.t254), (255, Tryz.t255), (256, Tryz.t256), (257, Tryz.t257), (258, Tryz.t258), (259, Tryz.t259), (260, Tryz.t260), (261, Tryz.t261), (262, Tryz.t262), (263, Tryz.t263), (264, Tryz.t264), (265, Tryz.t265), (266, Tryz.t266), (267, Tryz.t267), (268, Tryz.t268), (269, Tryz.t269), (270, Tryz.t270), (271, Tryz.t271), (272, Tryz.t272), (273, Tryz.t273), (274, Tryz.t274), (275, Tryz.t275), (276, Tryz.t276), (277, Tryz.t277), (278, Tryz.t278), (279, Tryz.t279)]
theorem tyl6_ok : AllI Tryz.prog tyl6 := (.cons Tryz.type240 (.cons Tryz.type241 (.cons Tryz.type242 (.cons Tryz.type243 (.cons Tryz.type244 (.cons Tryz.type245 (.cons Tryz.type246 (.cons Tryz.type247 (.cons Tryz.type248 (.cons Tryz.type249 (.cons Tryz.type250 (.cons Tryz.type251 (.cons Tryz.type252 (.cons Tryz.type253 (.cons Tryz.type254 (.cons Tryz.type255 (.cons Tryz.type256 (.cons Tryz.type257 (.cons Tryz.type258 (.cons Tryz.type259 (.cons Tryz.type260 (.cons Tryz.type261 (.cons Tryz.type262 (.cons Tryz.type263 (.cons Tryz.type264 (.cons Tryz.type265 (.cons Tryz.type266 (.cons Tryz.type267 (.cons Tryz.type268 (.cons Tryz.type269 (.cons Tryz.type270 (.cons Tryz.type271 (.cons Tryz.type272 (.cons Tryz.type273 (.cons Tryz.type274 (.cons Tryz.type275 (.cons Tryz.type276 (.cons Tryz.type277 (.cons Tryz.type278 (.cons Tryz.type279 .nil))))))))))))))))))))))))))))))))))))))))
noncomputable def tyl7 : List (Nat × TypeInfo) := [(280, Tryz.t280), (281, Tryz.t281), (282, Tryz.t282), (283, Tryz.t283), (284, Tryz.t284), (285, Tryz.t285), (286, Tryz.t286), (287, Tryz.t287), (288, Tryz.t288), (289, Tryz.t289), (290, Tryz.t290), (291, Tryz.t291), (292, Tryz.t292), (293, Tryz.t293), (294, Tryz.t294), (295, Tryz.t295), (296, Tryz.t296), (297, Tryz.t297), (298, Tryz.t298), (299, Tryz.t299), (300, Tryz.t300), (301, Tryz.t301), (302, Tryz.t302), (303, Tryz.t303), (304, Tryz.t304), (305, Tryz.t305), (306, Tryz.t306), (307, Tryz.t307), (308, Tryz.t308), (309, Tryz.t309), (310, Tryz.t310), (311, Tryz.t311), (312, Tryz.t312), (313, Tryz.t313), (314, Tryz.t314), (315, Tryz.t315), (316, Tryz.t316), (317, Tryz.t317), (318, Tryz.t318), (319, Tryz.t319)]
theorem tyl7_ok : AllI Tryz.prog tyl7 := (.cons Tryz.type280 (.cons Tryz.type281 (.cons Tryz.type282 (.cons Tryz.type283 (.cons Tryz.type284 (.cons Tryz.type285 (.cons Tryz.type286 (.cons Tryz.type287 (.cons Tryz.type288 (.cons Tryz.type289 (.cons Tryz.type290 (.cons Tryz.type291 (.cons Tryz.type292 (.cons Tryz.type293 (.cons Tryz.type294 (.cons Tryz.type295 (.cons Tryz.type296 (.cons Tryz.type297 (.cons Tryz.type298 (.cons Tryz.type299 (.cons Tryz.type300 (.cons Tryz.type301 (.cons Tryz.type302 (.cons Tryz.type303 (.cons Tryz.type304 (.cons Tryz.type305 (.cons Tryz.type306 (.cons Tryz.type307 (.cons Tryz.type308 (.cons Tryz.type309 (.cons Tryz.type310 (.cons Tryz.type311 (.cons Tryz.type312 (.cons Tryz.type313 (.cons Tryz.type314 (.cons Tryz.type315 (.cons Tryz.type316 (.cons Tryz.type317 (.cons Tryz.type318 (.cons Tryz.type319 .nil))))))))))))))))))))))))))))))))))))))))
noncomputable def tyl8 : List (Nat × TypeInfo) := [(320, Tryz.t320), (321, Tryz.t321), (322, Tryz.t322), (323, Tryz.t323), (324, Tryz.t324), (325, Tryz.t325), (326, Tryz.t326), (327, Tryz.t327), (328, Tryz.t328), (329, Tryz.t329), (330, Tryz.t330), (331, Tryz.t331), (332, Tryz.t332), (333, Tryz.t333), (334, Tryz.t334), (335, Tryz.t335), (336, Tryz.t336), (337, Tryz.t337), (338, Tryz.t338), (339, Tryz.t339), (340, Tryz.t340), (341, Tryz.t341), (342, Tryz.t342), (343, Tryz.t343), (344, Tryz.t344), (345, Tryz.t345), (346, Tryz.t346), (347, Tryz.t347), (348, Tryz.t348), (349, Tryz.t349), (350, Tryz.t350), (351, Tryz.t351), (352, Tryz.t352), (353, Tryz.t353), (354, Tryz.t354), (355, Tryz.t355), (356, Tryz.t356), (357, Tryz.t357), (358, Tryz.t358), (359, Tryz.t359)]
theorem tyl8_ok : AllI Tryz.prog tyl8 := (.cons Tryz.type320 (.cons Tryz.type321 (.cons Tryz.type322 (.cons Tryz.type323 (.cons Tryz.type324 (.cons Tryz.type325 (.cons Tryz.type326 (.cons Tryz.type327 (.cons Tryz.type328 (.cons Tryz.type329 (.cons Tryz.type330 (.cons Tryz.type331 (.cons Tryz.type332 (.cons Tryz.type333 (.cons Tryz.type334 (.cons Tryz.type335 (.cons Tryz.type336 (.cons Tryz.type337 (.cons Tryz.type338 (.cons Tryz.type339 (.cons Tryz.type340 (.cons Tryz.type341 (.cons Tryz.type342 (.cons Tryz.type343 (.cons Tryz.type344 (.cons Tryz.type345 (.cons Tryz.type346 (.cons Tryz.type347 (.cons Tryz.type348 (.cons Tryz.type349 (.cons Tryz.type350 (.cons Tryz.type351 (.cons Tryz.type352 (.cons Tryz.type353 (.cons Tryz.type354 (.cons Tryz.type355 (.cons Tryz.type356 (.cons Tryz.type357 (.cons Tryz.type358 (.cons Tryz.type359 .nil))))))))))))))))))))))))))))))))))))))))
noncomputable def tyl9 : List (Nat × TypeInfo) := [(360, Tryz.t360), (361, Tryz.t361), (362, Tryz.t362), (363, Tryz.t363), (364, Tryz.t364), (365, Tryz.t365), (366, Tryz.t366), (367, Tryz.t367), (368, Tryz.t368), (369, Tryz.t369), (370, Tryz.t370), (371, Tryz.t371), (372, Tryz.t372), (373, Tryz.t373), (374, Tryz.t374), (375, Tryz.t375), (376, Tryz.t376), (377, Tryz.t377), (378, Tryz.t378), (379, Tryz.t379), (380, Tryz.t380), (381, Tryz.t381), (382, Tryz.t382), (383, Tryz.t383), (384, Tryz.t384), (385, Tryz.t385), (386, Tryz.t386), (387, Tryz.t387), (388, Tryz.t388), (389, Tryz.t389), (390, Tryz.t390), (391, Tryz.t391), (392, Tryz.t392), (393, Tryz.t393), (394, Tryz.t394), (395, Tryz.t395), (396, Tryz.t396), (397, Tryz.t397), (398, Tryz.t398), (399, Tryz.t399)]
theorem tyl9_ok : AllI Tryz.prog tyl9 := (.cons Tryz.type360 (.cons Tryz.type361 (.cons Tryz.type362 (.cons Tryz.type363 (.cons Tryz.type364 (.cons Tryz.type365 (.cons Tryz.type366 (.cons Tryz.type367 (.cons Tryz.type368 (.cons Tryz.type369 (.cons Tryz.type370 (.cons Tryz.type371 (.cons Tryz.type372 (.cons Tryz.type373 (.cons Tryz.type374 (.cons Tryz.type375 (.cons Tryz.type376 (.cons Tryz.type377 (.cons Tryz.type378 (.cons Tryz.type379 (.cons Tryz.type380 (.cons Tryz.type381 (.cons Tryz.type382 (.cons Tryz.type383 (.cons Tryz.type384 (.cons Tryz.type385 (.cons Tryz.type386 (.cons Tryz.type387 (.cons Tryz.type388 (.cons Tryz.type389 (.cons Tryz.type390 (.cons Tryz.type391 (.cons Tryz.type392 (.cons Tryz.type393 (.cons Tryz.type394 (.cons Tryz.type395 (.cons Tryz.type396 (.cons Tryz.type397 (.cons Tryz.type398 (.cons Tryz.type399 .nil))))))))))))))))))))))))))))))))))))))))
noncomputable def tyl10 : List (Nat × TypeInfo) := [(400, Tryz.t400), (401, Tryz.t401), (402, Tryz.t402), (403, Tryz.t403), (404, Tryz.t404), (405, Tryz.t405), (406, Tryz.t406), (407, Tryz.t407), (408, Tryz.t408), (409, Tryz.t409), (410, Tryz.t410), (411, Tryz.t411), (412, Tryz.t412), (413, Tryz.t413), (414, Tryz.t414), (415, Tryz.t415), (416, Tryz.t416), (417, Tryz.t417), (418, Tryz.t418), (419, Tryz.t419), (420, Tryz.t420), (421, Tryz.t421), (422, Tryz.t422), (423, Tryz.t423), (424, Tryz.t424), (425, Tryz.t425), (426, Tryz.t426), (427, Tryz.t427), (428, Tryz.t428), (429, Tryz.t429), (430, Tryz.t430), (431, Tryz.t431), (432, Tryz.t432), (433, Tryz.t433), (434, Tryz.t434), (435, Tryz.t435), (436, Tryz.t436), (437, Tryz.t437), (438, Tryz.t438), (439, Tryz.t439)]
theorem tyl10_ok : AllI Tryz.prog tyl10 := (.cons Tryz.type400 (.cons Tryz.type401 (.cons Tryz.type402 (.cons Tryz.type403 (.cons Tryz.type404 (.cons Tryz.type405 (.cons Tryz.type406 (.cons Tryz.type407 (.cons Tryz.type408 (.cons Tryz.type409 (.cons Tryz.type410 (.cons Tryz.type411 (.cons Tryz.type412 (.cons Tryz.type413 (.cons Tryz.type414 (.cons Tryz.type415 (.cons Tryz.type416 (.cons Tryz.type417 (.cons Tryz.type418 (.cons Tryz.type419 (.cons Tryz.type420 (.cons Tryz.type421 (.cons Tryz.type422 (.cons Tryz.type423 (.cons Tryz.type424 (.cons Tryz.type425 (.cons Tryz.type426 (.cons Tryz.type427 (.cons Tryz.type428 (.cons Tryz.type429 (.cons Tryz.type430 (.cons Tryz.type431 (.cons Tryz.type432 (.cons Tryz.type433 (.cons Tryz.type434 (.cons Tryz.type435 (.cons Tryz.type436 (.cons Tryz.type437 (.cons Tryz.type438 (.cons Tryz.type439 .nil))))))))))))))))))))))))))))))))))))))))
noncomputable def tyl11 : List (Nat × TypeInfo) := [(440, Tryz.t440), (441, Tryz.t441), (442, Tryz.t442), (443, Tryz.t443), (444, Tryz.t444), (445, Tryz.t445), (446, Tryz.t446), (447, Tryz.t447), (448, Tryz.t448), (449, Tryz.t449), (450, Tryz.t450), (451, Tryz.t451), (452, Tryz.t452), (453, Tryz.t453), (454, Tryz.t454), (455, Tryz.t455), (456, Tryz.t456), (457, Tryz.t457), (458, Tryz.t458), (459, Tryz.t459), (460, Tryz.t460), (461, Tryz.t461), (462, Tryz.t462), (463, Tryz.t463), (464, Tryz.t464), (465, Tryz.t465), (466, Tryz.t466), (467, Tryz.t467), (468, Tryz.t468), (469, Tryz.t469), (470, Tryz.t470), (471, Tryz.t471), (472, Tryz.t472), (473, Tryz.t473), (474, Tryz.t474), (475, Tryz.t475), (476, Tryz.t476), (477, Tryz.t477), (478, Tryz.t478), (479, Tryz.t479)]
theorem tyl11_ok : AllI Tryz.prog tyl11 := (.cons Tryz.type440 (.cons Tryz.type441 (.cons Tryz.type442 (.cons Tryz.type443 (.cons Tryz.type444 (.cons Tryz.type445 (.cons Tryz.type446 (.cons Tryz.type447 (.cons Tryz.type448 (.cons Tryz.type449 (.cons Tryz.type450 (.cons Tryz.type451 (.cons Tryz.type452 (.cons Tryz.type453 (.cons Tryz.type454 (.cons Tryz.type455 (.cons Tryz.type456 (.cons Tryz.type457 (.cons Tryz.type458 (.cons Tryz.type459 (.cons Tryz.type460 (.cons Tryz.type461 (.cons Tryz.type462 (.cons Tryz.type463 (.cons Tryz.type464 (.cons Tryz.type465 (.cons Tryz.type466 (.cons Tryz.type467 (.cons Tryz.type468 (.cons Tryz.type469 (.cons Tryz.type470 (.cons Tryz.type471 (.cons Tryz.type472 (.cons Tryz.type473 (.cons Tryz.type474 (.cons Tryz.type475 (.cons Tryz.type476 (.cons Tryz.type477 (.cons Tryz.type478 (.cons Tryz.type479 .nil))))))))))))))))))))))))))))))))))))))))
noncomputable def tyl12 : List (Nat × TypeInfo) := [(480, Tryz.t480), (481, Tryz.t481), (482, Tryz.t482), (483, Tryz.t483), (484, Tryz.t484), (485, Tryz.t485), (486, Tryz.t486), (487, Tryz.t487), (488, Tryz.t488), (489, Tryz.t489), (490, Tryz.t490), (491, Tryz.t491), (492, Tryz.t492), (493, Tryz.t493), (494, Tryz.t494), (495, Tryz.t495), (496, Tryz.t496), (497, Tryz.t497), (498, Tryz.t498), (499, Tryz.t499), (500, Tryz.t500), (501, Tryz.t501), (502, Tryz.t502), (503, Tryz.t503), (504, Tryz.t504), (505, Tryz.t505), (506, Tryz.t506), (507, Tryz.t507), (508, Tryz.t508), (509, Tryz.t509), (510, Tryz.t510), (511, Tryz.t511), (512, Tryz.t512), (513, Tryz.t513), (514, Tryz.t514), (515, Tryz.t515), (516, Tryz.t516), (517, Tryz.t517), (518, Tryz.t518), (519, Tryz.t519)]
theorem tyl12_ok : AllI Tryz.prog tyl12 := (.cons Tryz.type480 (.cons Tryz.type481 (.cons Tryz.type482 (.cons Tryz.type483 (.cons Tryz.type484 (.cons Tryz.type485 (.cons Tryz.type486 (.cons Tryz.type487 (.cons Tryz.type488 (.cons Tryz.type489 (.cons Tryz.type490 (.cons Tryz.type491 (.cons Tryz.type492 (.cons Tryz.type493 (.cons Tryz.type494 (.cons Tryz.type495 (.cons Tryz.type496 (.cons Tryz.type497 (.cons Tryz.type498 (.cons Tryz.type499 (.cons Tryz.type500 (.cons Tryz.type501 (.cons Tryz.type502 (.cons Tryz.type503 (.cons Tryz.type504 (.cons Tryz.type505 (.cons Tryz.type506 (.cons Tryz.type507 (.cons Tryz.type508 (.cons Tryz.type509 (.cons Tryz.type510 (.cons Tryz.type511 (.cons Tryz.type512 (.cons Tryz.type513 (.cons Tryz.type514 (.cons Tryz.type515 (.cons Tryz.type516 (.cons Tryz.type517 (.cons Tryz.type518 (.cons Tryz.type519 .nil))))))))))))))))))))))))))))))))))))))))
noncomputable def tyl13 : List (Nat × TypeInfo) := [(520, Tryz.t520), (521, Tryz.t521), (522, Tryz.t522), (523, Tryz.t523), (524, Tryz.t524), (525, Tryz.t525), (526, Tryz.t526), (527, Tryz.t527), (528, Tryz.t528), (529, Tryz.t529), (530, Tryz.t530), (531, Tryz.t531), (532, Tryz.t532), (533, Tryz.t533), (534, Tryz.t534), (535, Tryz.t535), (536, Tryz.t536), (537, Tryz.t537), (538, Tryz.t538), (539, Tryz.t539), (540, Tryz.t540), (541, Tryz.t541), (542, Tryz.t542), (543, Tryz.t543), (544, Tryz.t544), (545, Tryz.t545)]
theorem tyl13_ok : AllI Tryz.prog tyl13 := (.cons Tryz.type520 (.cons Tryz.type521 (.cons Tryz.type522 (.cons Tryz.type523 (.cons Tryz.type524 (.cons Tryz.type525 (.cons Tryz.type526 (.cons Tryz.type527 (.cons Tryz.type528 (.cons Tryz.type529 (.cons Tryz.type530 (.cons Tryz.type531 (.cons Tryz.type532 (.cons Tryz.type533 (.cons Tryz.type534 (.cons Tryz.type535 (.cons Tryz.type536 (.cons Tryz.type537 (.cons Tryz.type538 (.cons Tryz.type539 (.cons Tryz.type540 (.cons Tryz.type541 (.cons Tryz.type542 (.cons Tryz.type543 (.cons Tryz.type544 (.cons Tryz.type545 .nil))))))))))))))))))))))))))
noncomputable def tyl : List (Nat × TypeInfo) := tyl0 ++ tyl1 ++ tyl2 ++ tyl3 ++ tyl4 ++ tyl5 ++ tyl6 ++ tyl7 ++ tyl8 ++ tyl9 ++ tyl10 ++ tyl11 ++ tyl12 ++ tyl13
theorem tyl_ok : AllI Tryz.prog tyl := (((((((((((((tyl0_ok).app tyl1_ok).app tyl2_ok).app tyl3_ok).app tyl4_ok).app tyl5_ok).app tyl6_ok).app tyl7_ok).app tyl8_ok).app tyl9_ok).app tyl10_ok).app tyl11_ok).app tyl12_ok).app tyl13_ok
noncomputable def tyT : TT := ttOf tyl
noncomputable def YF : TI := fastTI Tryz.prog tyT []
theorem YF_eq : YF = tiOf Tryz.prog := fastTI_eq tyl_ok.info fun t h => by cases h
noncomputable def fil0 : List FI := [⟨3, Tryz.f3, 262141, true⟩, ⟨4, Tryz.f4, 8189, true⟩, ⟨5, Tryz.f5, 2045, true⟩, ⟨6, Tryz.f6, 32765, true⟩, ⟨7, Tryz.f7, 253, true⟩, ⟨8, Tryz.f8, 509, true⟩, ⟨9, Tryz.f9, 65533, true⟩, ⟨10, Tryz.f10, 253, true⟩, ⟨11, Tryz.f11, 2045, true⟩, ⟨12, Tryz.f12, 2045, true⟩, ⟨13, Tryz.f13, 253, true⟩, ⟨14, Tryz.f14, 1021, true⟩, ⟨15, Tryz.f15, 71, true⟩, ⟨16, Tryz.f16, 115, true⟩, ⟨17, Tryz.f17, 13, false⟩, ⟨18, Tryz.f18, 243, false⟩, ⟨19, Tryz.f19, 5, false⟩, ⟨20, Tryz.f20, 51, true⟩, ⟨21, Tryz.f21, 115, false⟩, ⟨22, Tryz.f22, 31, false⟩, ⟨23, Tryz.f23, 13, true⟩, ⟨24, Tryz.f24, 63, true⟩, ⟨25, Tryz.f25, 15, false⟩, ⟨26, Tryz.f26, 15, false⟩, ⟨27, Tryz.f27, 4132070672510939562749, true⟩, ⟨28, Tryz.f28, 1033017791303101972823, true⟩, ⟨29, Tryz.f29, 89988530520407630375902716630134254137558276757557418861308591, true⟩, ⟨30, Tryz.f30, 2045, true⟩, ⟨31, Tryz.f31, 31, false⟩, ⟨32, Tryz.f32, 23, false⟩, ⟨33, Tryz.f33, 15, false⟩, ⟨34, Tryz.f34, 55, false⟩, ⟨35, Tryz.f35, 19, true⟩, ⟨36, Tryz.f36, 19, true⟩, ⟨37, Tryz.f37, 51, false⟩, ⟨38, Tryz.f38, 115, true⟩, ⟨39, Tryz.f39, 65479, true⟩, ⟨40, Tryz.f40, 19, true⟩, ⟨41, Tryz.f41, 61598433542239, true⟩, ⟨42, Tryz.f42, 1278813937428638574633401758400737523876717043039, true⟩]
theorem nm3 : (Tryz.f3.name == "runtime.NumGoroutine") = false := by kernel_rfl
theorem nm4 : (Tryz.f4.name == "runtime.NumGoroutine") = false := by kernel_rfl
theorem nm5 : (Tryz.f5.name == "runtime.NumGoroutine") = false := by kernel_rfl
theorem nm6 : (Tryz.f6.name == "runtime.NumGoroutine") = false := by kernel_rfl
theorem nm7 : (Tryz.f7.name == "runtime.NumGoroutine") = false := by kernel_rfl
theorem nm8 : (Tryz.f8.name == "runtime.NumGoroutine") = false := by kernel_rfl
theorem nm9 : (Tryz.f9.name == "runtime.NumGoroutine") = false := by kernel_rfl
theorem nm10 : (Tryz.f10.name == "runtime.NumGoroutine") = false := by kernel_rfl
theorem nm11 : (Tryz.f11.name == "runtime.NumGoroutine") = false := by kernel_rfl
theorem nm12 : (Tryz.f12.name == "runtime.NumGoroutine") = false := by kernel_rfl
theorem nm13 : (Tryz.f13.name == "runtime.NumGoroutine") = false := by kernel_rfl
theorem nm14 : (Tryz.f14.name == "runtime.NumGoroutine") = false := by kernel_rfl
theorem nm15 : (Tryz.f15.name == "runtime.NumGoroutine") = false := by kernel_rfl
theorem nm16 : (Tryz.f16.name == "runtime.NumGoroutine") = false := by kernel_rfl
theorem nm17 : (Tryz.f17.name == "runtime.NumGoroutine") = false := by kernel_rfl
theorem nm18 : (Tryz.f18.name == "runtime.NumGoroutine") = false := by kernel_rfl
theorem nm19 : (Tryz.f19.name == "runtime.NumGoroutine") = false := by kernel_rfl
theorem nm20 : (Tryz.f20.name == "runtime.NumGoroutine") = false := by kernel_rfl
theorem nm21 : (Tryz.f21.name == "runtime.NumGoroutine") = false := by kernel_rfl
theorem nm22 : (Tryz.f22.name == "runtime.NumGoroutine") = false := by kernel_rfl
theorem nm23 : (Tryz.f23.name == "runtime.NumGoroutine") = false := by kernel_rfl
theorem nm24 : (Tryz.f24.name == "runtime.NumGoroutine") = false := by kernel_rfl
theorem nm25 : (Tryz.f25.name == "runtime.NumGoroutine") = false := by kernel_rfl
theorem nm26 : (Tryz.f26.name == "runtime.NumGoroutine") = false := by kernel_rfl
theorem nm27 : (Tryz.f27.name == "runtime.NumGoroutine") = false := by kernel_rfl
theorem nm28 : (Tryz.f28.name == "runtime.NumGoroutine") = false := by kernel_rfl
theorem nm29 : (Tryz.f29.name == "runtime.NumGoroutine") = false := by kernel_rfl
theorem nm30 : (Tryz.f30.name == "runtime.NumGoroutine") = false := by kernel_rfl
theorem nm31 : (Tryz.f31.name == "runtime.NumGoroutine") = false := by kernel_rfl
theorem nm32 : (Tryz.f32.name == "runtime.NumGoroutine") = false := by kernel_rfl
theorem nm33 : (Tryz.f33.name == "runtime.NumGoroutine") = false := by kernel_rfl
theorem nm34 : (Tryz.f34.name == "runtime.NumGoroutine") = false := by kernel_rfl
theorem nm35 : (Tryz.f35.name == "runtime.NumGoroutine") = false := by kernel_rfl
theorem nm36 : (Tryz.f36.name == "runtime.NumGoroutine") = false := by kernel_rfl
theorem nm37 : (Tryz.f37.name == "runtime.NumGoroutine") = false := by kernel_rfl
theorem nm38 : (Tryz.f38.name == "runtime.NumGoroutine") = false := by kernel_rfl
theorem nm39 : (Tryz.f39.name == "runtime.NumGoroutine") = false := by kernel_rfl
theorem nm40 : (Tryz.f40.name == "runtime.NumGoroutine") = false := by kernel_rfl
theorem nm41 : (Tryz.f41.name == "runtime.NumGoroutine") = false := by kernel_rfl
theorem nm42 : (Tryz.f42.name == "runtime.NumGoroutine") = false := by kernel_rfl
theorem fil0_ok : AllF Tryz.prog fil0 := (.cons Tryz.func3 nm3 (.cons Tryz.func4 nm4 (.cons Tryz.func5 nm5 (.cons Tryz.func6 nm6 (.cons Tryz.func7 nm7 (.cons Tryz.func8 nm8 (.cons Tryz.func9 nm9 (.cons Tryz.func10 nm10 (.cons Tryz.func11 nm11 (.cons Tryz.func12 nm12 (.cons Tryz.func13 nm13 (.cons Tryz.func14 nm14 (.cons Tryz.func15 nm15 (.cons Tryz.func16 nm16 (.cons Tryz.func17 nm17 (.cons Tryz.func18 nm18 (.cons Tryz.func19 nm19 (.cons Tryz.func20 nm20 (.cons Tryz.func21 nm21 (.cons Tryz.func22 nm22 (.cons Tryz.func23 nm23 (.cons Tryz.func24 nm24 (.cons Tryz.func25 nm25 (.cons Tryz.func26 nm26 (.cons Tryz.func27 nm27 (.cons Tryz.func28 nm28 (.cons Tryz.func29 nm29 (.cons Tryz.func30 nm30 (.cons Tryz.func31 nm31 (.cons Tryz.func32 nm32 (.cons Tryz.func33 nm33 (.cons Tryz.func34 nm34 (.cons Tryz.func35 nm35 (.cons Tryz.func36 nm36 (.cons Tryz.func37 nm37 (.cons Tryz.func38 nm38 (.cons Tryz.func39 nm39 (.cons Tryz.func40 nm40 (.cons Tryz.func41 nm41 (.cons Tryz.func42 nm42 .nil))))))))))))))))))))))))))))))))))))))))
noncomputable def fil1 : List FI := [⟨43, Tryz.f43, 5, true⟩, ⟨44, Tryz.f44, 5, true⟩, ⟨45, Tryz.f45, 5, false⟩, ⟨46, Tryz.f46, 3629, false⟩, ⟨47, Tryz.f47, 51, true⟩, ⟨48, Tryz.f48, 71, false⟩, ⟨49, Tryz.f49, 13, false⟩, ⟨50, Tryz.f50, 16777485, false⟩, ⟨51, Tryz.f51, 13, false⟩, ⟨52, Tryz.f52, 253, true⟩, ⟨53, Tryz.f53, 12339, false⟩, ⟨54, Tryz.f54, 12339, false⟩, ⟨55, Tryz.f55, 12339, false⟩, ⟨56, Tryz.f56, 230343, false⟩, ⟨57, Tryz.f57, 31, true⟩, ⟨58, Tryz.f58, 7, false⟩, ⟨59, Tryz.f59, 1879048911, false⟩, ⟨60, Tryz.f60, 0, false⟩, ⟨61, Tryz.f61, 15393280229503, false⟩, ⟨63, Tryz.f63, 13, false⟩, ⟨64, Tryz.f64, 71, true⟩, ⟨65, Tryz.f65, 13, false⟩, ⟨66, Tryz.f66, 15, false⟩, ⟨67, Tryz.f67, 16383, false⟩, ⟨68, Tryz.f68, 191, true⟩, ⟨69, Tryz.f69, 255, false⟩, ⟨70, Tryz.f70, 19, true⟩, ⟨71, Tryz.f71, 3855, true⟩, ⟨72, Tryz.f72, 19, false⟩, ⟨73, Tryz.f73, 59, false⟩, ⟨74, Tryz.f74, 61, false⟩, ⟨75, Tryz.f75, 51, true⟩, ⟨76, Tryz.f76, 115, true⟩, ⟨77, Tryz.f77, 5, false⟩, ⟨78, Tryz.f78, 58291, false⟩, ⟨79, Tryz.f79, 538861, true⟩, ⟨80, Tryz.f80, 253, false⟩, ⟨81, Tryz.f81, 15032385663, false⟩, ⟨82, Tryz.f82, 55, false⟩, ⟨83, Tryz.f83, 247, false⟩]
theorem nm43 : (Tryz.f43.name == "runtime.NumGoroutine") = false := by kernel_rfl
theorem nm44 : (Tryz.f44.name == "runtime.NumGoroutine") = false := by kernel_rfl
theorem nm45 : (Tryz.f45.name == "runtime.NumGoroutine") = false := by kernel_rfl
theorem nm46 : (Tryz.f46.name == "runtime.NumGoroutine") = false := by kernel_rfl
theorem nm47 : (Tryz.f47.name == "runtime.NumGoroutine") = false := by kernel_rfl
theorem nm48 : (Tryz.f48.name == "runtime.NumGoroutine") = false := by kernel_rfl
theorem nm49 : (Tryz.f49.name == "runtime.NumGoroutine") = false := by kernel_rfl
theorem nm50 : (Tryz.f50.name == "runtime.NumGoroutine") = false := by kernel_rfl
theorem nm51 : (Tryz.f51.name == "runtime.NumGoroutine") = false := by kernel_rfl
theorem nm52 : (Tryz.f52.name == "runtime.NumGoroutine") = false := by kernel_rfl
theorem nm53 : (Tryz.f53.name == "runtime.NumGoroutine") = false := by kernel_rfl
theorem nm54 : (Tryz.f54.name == "runtime.NumGoroutine") = false := by kernel_rfl
theorem nm55 : (Tryz.f55.name == "runtime.NumGoroutine") = false := by kernel_rfl
theorem nm56 : (Tryz.f56.name == "runtime.NumGoroutine") = false := by kernel_rfl
theorem nm57 : (Tryz.f57.name == "runtime.NumGoroutine") = false := by kernel_rfl
theorem nm58 : (Tryz.f58.name == "runtime.NumGoroutine") = false := by kernel_rfl
theorem nm59 : (Tryz.f59.name == "runtime.NumGoroutine") = false := by kernel_rfl
theorem nm60 : (Tryz.f60.name == "runtime.NumGoroutine") = false := by kernel_rfl
theorem nm61 : (Tryz.f61.name == "runtime.NumGoroutine") = false := by kernel_rfl
theorem nm63 : (Tryz.f63.name == "runtime.NumGoroutine") = false := by kernel_rfl
theorem nm64 : (Tryz.f64.name == "runtime.NumGoroutine") = false := by kernel_rfl
theorem nm65 : (Tryz.f65.name == "runtime.NumGoroutine") = false := by kernel_rfl
theorem nm66 : (Tryz.f66.name == "runtime.NumGoroutine") = false := by kernel_rfl
theorem nm67 : (Tryz.f67.name == "runtime.NumGoroutine") = false := by kernel_rfl
theorem nm68 : (Tryz.f68.name == "runtime.NumGoroutine") = false := by kernel_rfl
theorem nm69 : (Tryz.f69.name == "runtime.NumGoroutine") = false := by kernel_rfl
theorem nm70 : (Tryz.f70.name == "runtime.NumGoroutine") = false := by kernel_rfl
theorem nm71 : (Tryz.f71.name == "runtime.NumGoroutine") = false := by kernel_rfl
theorem nm72 : (Tryz.f72.name == "runtime.NumGoroutine") = false := by kernel_rfl
theorem nm73 : (Tryz.f73.name == "runtime.NumGoroutine") = false := by kernel_rfl
theorem nm74 : (Tryz.f74.name == "runtime.NumGoroutine") = false := by kernel_rfl
theorem nm75 : (Tryz.f75.name == "runtime.NumGoroutine") = false := by kernel_rfl
theorem nm76 : (Tryz.f76.name == "runtime.NumGoroutine") = false := by kernel_rfl
theorem nm77 : (Tryz.f77.name == "runtime.NumGoroutine") = false := by kernel_rfl
theorem nm78 : (Tryz.f78.name == "runtime.NumGoroutine") = false := by kernel_rfl
theorem nm79 : (Tryz.f79.name == "runtime.NumGoroutine") = false := by kernel_rfl
theorem nm80 : (Tryz.f80.name == "runtime.NumGoroutine") = false := by kernel_rfl
theorem nm81 : (Tryz.f81.name == "runtime.NumGoroutine") = false := by kernel_rfl
theorem nm82 : (Tryz.f82.name == "runtime.NumGoroutine") = false := by kernel_rfl
theorem nm83 : (Tryz.f83.name == "runtime.NumGoroutine") = false := by kernel_rfl
theorem fil1_ok : AllF Tryz.prog fil1 := (.cons Tryz.func43 nm43 (.cons Tryz.func44 nm44 (.cons Tryz.func45 nm45 (.cons Tryz.func46 nm46 (.cons Tryz.func47 nm47 (.cons Tryz.func48 nm48 (.cons Tryz.func49 nm49 (.cons Tryz.func50 nm50 (.cons Tryz.func51 nm51 (.cons Tryz.func52 nm52 (.cons Tryz.func53 nm53 (.cons Tryz.func54 nm54 (.cons Tryz.func55 nm55 (.cons Tryz.func56 nm56 (.cons Tryz.func57 nm57 (.cons Tryz.func58 nm58 (.cons Tryz.func59 nm59 (.cons Tryz.func60 nm60 (.cons Tryz.func61 nm61 (.cons Tryz.func63 nm63 (.cons Tryz.func64 nm64 (.cons Tryz.func65 nm65 (.cons Tryz.func66 nm66 (.cons Tryz.func67 nm67 (.cons Tryz.func68 nm68 (.cons Tryz.func69 nm69 (.cons Tryz.func70 nm70 (.cons Tryz.func71 nm71 (.cons Tryz.func72 nm72 (.cons Tryz.func73 nm73 (.cons Tryz.func74 nm74 (.cons Tryz.func75 nm75 (.cons Tryz.func76 nm76 (.cons Tryz.func77 nm77 (.cons Tryz.func78 nm78 (.cons Tryz.func79 nm79 (.cons Tryz.func80 nm80 (.cons Tryz.func81 nm81 (.cons Tryz.func82 nm82 (.cons Tryz.func83 nm83 .nil))))))))))))))))))))))))))))))))))))))))
noncomputable def fil2 : List FI := [⟨84, Tryz.f84, 159851741583067515552082230213347157057475032319, true⟩, ⟨85, Tryz.f85, 3, true⟩, ⟨86, Tryz.f86, 51, true⟩, ⟨87, Tryz.f87, 64563608106274133427, false⟩, ⟨88, Tryz.f88, 55, false⟩, ⟨89, Tryz.f89, 5, true⟩, ⟨90, Tryz.f90, 246290604622589, true⟩, ⟨91, Tryz.f91, 127, true⟩, ⟨92, Tryz.f92, 1975, false⟩, ⟨93, Tryz.f93, 5, true⟩, ⟨94, Tryz.f94, 61, false⟩, ⟨95, Tryz.f95, 12339, false⟩, ⟨96, Tryz.f96, 230343, false⟩, ⟨97, Tryz.f97, 31, false⟩, ⟨98, Tryz.f98, 12339, false⟩, ⟨99, Tryz.f99, 7, false⟩, ⟨100, Tryz.f100, 19, false⟩, ⟨101, Tryz.f101, 3145757, false⟩, ⟨102, Tryz.f102, 71, false⟩, ⟨103, Tryz.f103, 19, false⟩, ⟨105, Tryz.f105, 511, false⟩, ⟨107, Tryz.f107, 3298534883341, false⟩, ⟨108, Tryz.f108, 504403158294855935, false⟩, ⟨109, Tryz.f109, 5, false⟩, ⟨110, Tryz.f110, 5, false⟩, ⟨111, Tryz.f111, 5, false⟩, ⟨112, Tryz.f112, 5, false⟩, ⟨113, Tryz.f113, 511, true⟩, ⟨114, Tryz.f114, 5, false⟩, ⟨115, Tryz.f115, 1023, false⟩, ⟨116, Tryz.f116, 63, false⟩, ⟨117, Tryz.f117, 61, false⟩, ⟨118, Tryz.f118, 463, false⟩, ⟨119, Tryz.f119, 119, false⟩, ⟨120, Tryz.f120, 32719, false⟩, ⟨121, Tryz.f121, 7, false⟩, ⟨122, Tryz.f122, 5, false⟩, ⟨123, Tryz.f123, 253, true⟩, ⟨124, Tryz.f124, 71, false⟩, ⟨125, Tryz.f125, 51, false⟩]
theorem nm84 : (Tryz.f84.name == "runtime.NumGoroutine") = false := by kernel_rfl
theorem nm85 : (Tryz.f85.name == "runtime.NumGoroutine") = false := by kernel_rfl
theorem nm86 : (Tryz.f86.name == "runtime.NumGoroutine") = false := by kernel_rfl
theorem nm87 : (Tryz.f87.name == "runtime.NumGoroutine") = false := by kernel_rfl
theorem nm88 : (Tryz.f88.name == "runtime.NumGoroutine") = false := by kernel_rfl
theorem nm89 : (Tryz.f89.name == "runtime.NumGoroutine") = false := by kernel_rfl
theorem nm90 : (Tryz.f90.name == "runtime.NumGoroutine") = false := by kernel_rfl
theorem nm91 : (Tryz.f91.name == "runtime.NumGoroutine") = false := by kernel_rfl
theorem nm92 : (Tryz.f92.name == "runtime.NumGoroutine") = false := by kernel_rfl
theorem nm93 : (Tryz.f93.name == "runtime.NumGoroutine") = false := by kernel_rfl
theorem nm94 : (Tryz.f94.name == "runtime.NumGoroutine") = false := by kernel_rfl
theorem nm95 : (Tryz.f95.name == "runtime.NumGoroutine") = false := by kernel_rfl
theorem nm96 : (Tryz.f96.name == "runtime.NumGoroutine") = false := by kernel_rfl
theorem nm97 : (Tryz.f97.name == "runtime.NumGoroutine") = false := by kernel_rfl
theorem nm98 : (Tryz.f98.name == "runtime.NumGoroutine") = false := by kernel_rfl
theorem nm99 : (Tryz.f99.name == "runtime.NumGoroutine") = false := by kernel_rfl
theorem nm100 : (Tryz.f100.name == "runtime.NumGoroutine") = false := by kernel_rfl
theorem nm101 : (Tryz.f101.name == "runtime.NumGoroutine") = false := by kernel_rfl
theorem nm102 : (Tryz.f102.name == "runtime.NumGoroutine") = false := by kernel_rfl
theorem nm103 : (Tryz.f103.name == "runtime.NumGoroutine") = false := by kernel_rfl
theorem nm105 : (Tryz.f105.name == "runtime.NumGoroutine") = false := by kernel_rfl
theorem nm107 : (Tryz.f107.name == "runtime.NumGoroutine") = false := by kernel_rfl
theorem nm108 : (Tryz.f108.name == "runtime.NumGoroutine") = false := by kernel_rfl
theorem nm109 : (Tryz.f109.name == "runtime.NumGoroutine") = false := by kernel_rfl
theorem nm110 : (Tryz.f110.name == "runtime.NumGoroutine") = false := by kernel_rfl
theorem nm111 : (Tryz.f111.name == "runtime.NumGoroutine") = false := by kernel_rfl
theorem nm112 : (Tryz.f112.name == "runtime.NumGoroutine") = false := by kernel_rfl
theorem nm113 : (Tryz.f113.name == "runtime.NumGoroutine") = false := by kernel_rfl
theorem nm114 : (Tryz.f114.name == "runtime.NumGoroutine") = false := by kernel_rfl
theorem nm115 : (Tryz.f115.name == "runtime.NumGoroutine") = false := by kernel_rfl
theorem nm116 : (Tryz.f116.name == "runtime.NumGoroutine") = false := by kernel_rfl
theorem nm117 : (Tryz.f117.name == "runtime.NumGoroutine") = false := by kernel_rfl
theorem nm118 : (Tryz.f118.name == "runtime.NumGoroutine") = false := by kernel_rfl
theorem nm119 : (Tryz.f119.name == "runtime.NumGoroutine") = false := by kernel_rfl
theorem nm120 : (Tryz.f120.name == "runtime.NumGoroutine") = false := by kernel_rfl
theorem nm121 : (Tryz.f121.name == "runtime.NumGoroutine") = false := by kernel_rfl
theorem nm122 : (Tryz.f122.name == "runtime.NumGoroutine") = false := by kernel_rfl
theorem nm123 : (Tryz.f123.name == "runtime.NumGoroutine") = false := by kernel_rfl
theorem nm124 : (Tryz.f124.name == "runtime.NumGoroutine") = false := by kernel_rfl
theorem nm125 : (Tryz.f125.name == "runtime.NumGoroutine") = false := by kernel_rfl
theorem fil2_ok : AllF Tryz.prog fil2 := (.cons Tryz.func84 nm84 (.cons Tryz.func85 nm85 (.cons Tryz.func86 nm86 (.cons Tryz.func87 nm87 (.cons Tryz.func88 nm88 (.cons Tryz.func89 nm89 (.cons Tryz.func90 nm90 (.cons Tryz.func91 nm91 (.cons Tryz.func92 nm92 (.cons Tryz.func93 nm93 (.cons Tryz.func94 nm94 (.cons Tryz.func95 nm95 (.cons Tryz.func96 nm96 (.cons Tryz.func97 nm97 (.cons Tryz.func98 nm98 (.cons Tryz.func99 nm99 (.cons Tryz.func100 nm100 (.cons Tryz.func101 nm101 (.cons Tryz.func102 nm102 (.cons Tryz.func103 nm103 (.cons Tryz.func105 nm105 (.cons Tryz.func107 nm107 (.cons Tryz.func108 nm108 (.cons Tryz.func109 nm109 (.cons Tryz.func110 nm110 (.cons Tryz.func111 nm111 (.cons Tryz.func112 nm112 (.cons Tryz.func113 nm113 (.cons Tryz.func114 nm114 (.cons Tryz.func115 nm115 (.cons Tryz.func116 nm116 (.cons Tryz.func117 nm117 (.cons Tryz.func118 nm118 (.cons Tryz.func119 nm119 (.cons Tryz.func120 nm120 (.cons Tryz.func121 nm121 (.cons Tryz.func122 nm122 (.cons Tryz.func123 nm123 (.cons Tryz.func124 nm124 (.cons Tryz.func125 nm125 .nil))))))))))))))))))))))))))))))))))))))))
noncomputable def fil3 : List FI := [⟨126, Tryz.f126, 1, false⟩, ⟨127, Tryz.f127, 27, false⟩, ⟨128, Tryz.f128, 127, false⟩, ⟨130, Tryz.f130, 115, true⟩, ⟨131, Tryz.f131, 19, true⟩, ⟨132, Tryz.f132, 443, false⟩, ⟨133, Tryz.f133, 985162418489213, false⟩, ⟨135, Tryz.f135, 51, true⟩, ⟨136, Tryz.f136, 435, false⟩, ⟨137, Tryz.f137, 1, false⟩, ⟨138, Tryz.f138, 5, false⟩, ⟨139, Tryz.f139, 1991, false⟩, ⟨140, Tryz.f140, 253, false⟩, ⟨141, Tryz.f141, 12339, true⟩, ⟨142, Tryz.f142, 590295810358705652351, false⟩, ⟨143, Tryz.f143, 23, false⟩, ⟨144, Tryz.f144, 19, false⟩, ⟨146, Tryz.f146, 7, false⟩, ⟨147, Tryz.f147, 199, false⟩, ⟨148, Tryz.f148, 21, false⟩, ⟨149, Tryz.f149, 19, false⟩, ⟨151, Tryz.f151, 37, false⟩, ⟨152, Tryz.f152, 19, false⟩, ⟨153, Tryz.f153, 63, false⟩, ⟨154, Tryz.f154, 4093, false⟩, ⟨155, Tryz.f155, 5, false⟩, ⟨156, Tryz.f156, 27, false⟩, ⟨157, Tryz.f157, 19, false⟩, ⟨158, Tryz.f158, 23, false⟩, ⟨159, Tryz.f159, 1, false⟩, ⟨160, Tryz.f160, 3, false⟩, ⟨161, Tryz.f161, 5, false⟩, ⟨162, Tryz.f162, 247, false⟩, ⟨163, Tryz.f163, 95, false⟩, ⟨164, Tryz.f164, 19, false⟩, ⟨165, Tryz.f165, 15, false⟩, ⟨166, Tryz.f166, 8070450534126977527, true⟩, ⟨167, Tryz.f167, 435, false⟩, ⟨168, Tryz.f168, 5, false⟩, ⟨169, Tryz.f169, 4039, false⟩]
theorem nm126 : (Tryz.f126.name == "runtime.NumGoroutine") = false := by kernel_rfl
theorem nm127 : (Tryz.f127.name == "runtime.NumGoroutine") = false := by kernel_rfl
theorem nm128 : (Tryz.f128.name == "runtime.NumGoroutine") = false := by kernel_rfl
theorem nm130 : (Tryz.f130.name == "runtime.NumGoroutine") = false := by kernel_rfl
theorem nm131 : (Tryz.f131.name == "runtime.NumGoroutine") = false := by kernel_rfl
theorem nm132 : (Tryz.f132.name == "runtime.NumGoroutine") = false := by kernel_rfl
theorem nm133 : (Tryz.f133.name == "runtime.NumGoroutine") = false := by kernel_rfl
theorem nm135 : (Tryz.f135.name == "runtime.NumGoroutine") = false := by kernel_rfl
theorem nm136 : (Tryz.f136.name == "runtime.NumGoroutine") = false := by kernel_rfl
theorem nm137 : (Tryz.f137.name == "runtime.NumGoroutine") = false := by kernel_rfl
theorem nm138 : (Tryz.f138.name == "runtime.NumGoroutine") = false := by kernel_rfl
theorem nm139 : (Tryz.f139.name == "runtime.NumGoroutine") = false := by kernel_rfl
theorem nm140 : (Tryz.f140.name == "runtime.NumGoroutine") = false := by kernel_rfl
theorem nm141 : (Tryz.f141.name == "runtime.NumGoroutine") = false := by kernel_rfl
theorem nm142 : (Tryz.f142.name == "runtime.NumGoroutine") = false := by kernel_rfl
theorem nm143 : (Tryz.f143.name == "runtime.NumGoroutine") = false := by kernel_rfl
theorem nm144 : (Tryz.f144.name == "runtime.NumGoroutine") = false := by kernel_rfl
theorem nm146 : (Tryz.f146.name == "runtime.NumGoroutine") = false := by kernel_rfl
theorem nm147 : (Tryz.f147.name == "runtime.NumGoroutine") = false := by kernel_rfl
theorem nm148 : (Tryz.f148.name == "runtime.NumGoroutine") = false := by kernel_rfl
theorem nm149 : (Tryz.f149.name == "runtime.NumGoroutine") = false := by kernel_rfl
theorem nm151 : (Tryz.f151.name == "runtime.NumGoroutine") = false := by kernel_rfl
theorem nm152 : (Tryz.f152.name == "runtime.NumGoroutine") = false := by kernel_rfl
theorem nm153 : (Tryz.f153.name == "runtime.NumGoroutine") = false := by kernel_rfl
theorem nm154 : (Tryz.f154.name == "runtime.NumGoroutine") = false := by kernel_rfl
theorem nm155 : (Tryz.f155.name == "runtime.NumGoroutine") = false := by kernel_rfl
theorem nm156 : (Tryz.f156.name == "runtime.NumGoroutine") = false := by kernel_rfl
theorem nm157 : (Tryz.f157.name == "runtime.NumGoroutine") = false := by kernel_rfl
theorem nm158 : (Tryz.f158.name == "runtime.NumGoroutine") = false := by kernel_rfl
theorem nm159 : (Tryz.f159.name == "runtime.NumGoroutine") = false := by kernel_rfl
theorem nm160 : (Tryz.f160.name == "runtime.NumGoroutine") = false := by kernel_rfl
theorem nm161 : (Tryz.f161.name == "runtime.NumGoroutine") = false := by kernel_rfl
theorem nm162 : (Tryz.f162.name == "runtime.NumGoroutine") = false := by kernel_rfl
theorem nm163 : (Tryz.f163.name == "runtime.NumGoroutine") = false := by kernel_rfl
theorem nm164 : (Tryz.f164.name == "runtime.NumGoroutine") = false := by kernel_rfl
theorem nm165 : (Tryz.f165.name == "runtime.NumGoroutine") = false := by kernel_rfl
theorem nm166 : (Tryz.f166.name == "runtime.NumGoroutine") = false := by kernel_rfl
theorem nm167 : (Tryz.f167.name == "runtime.NumGoroutine") = false := by kernel_rfl
theorem nm168 : (Tryz.f168.name == "runtime.NumGoroutine") = false := by kernel_rfl
theorem nm169 : (Tryz.f169.name == "runtime.NumGoroutine") = false := by kernel_rfl
theorem fil3_ok : AllF Tryz.prog fil3 := (.cons Tryz.func126 nm126 (.cons Tryz.func127 nm127 (.cons Tryz.func128 nm128 (.cons Tryz.func130 nm130 (.cons Tryz.func131 nm131 (.cons Tryz.func132 nm132 (.cons Tryz.func133 nm133 (.cons Tryz.func135 nm135 (.cons Tryz.func136 nm136 (.cons Tryz.func137 nm137 (.cons Tryz.func138 nm138 (.cons Tryz.func139 nm139 (.cons Tryz.func140 nm140 (.cons Tryz.func141 nm141 (.cons Tryz.func142 nm142 (.cons Tryz.func143 nm143 (.cons Tryz.func144 nm144 (.cons Tryz.func146 nm146 (.cons Tryz.func147 nm147 (.cons Tryz.func148 nm148 (.cons Tryz.func149 nm149 (.cons Tryz.func151 nm151 (.cons Tryz.func152 nm152 (.cons Tryz.func153 nm153 (.cons Tryz.func154 nm154 (.cons Tryz.func155 nm155 (.cons Tryz.func156 nm156 (.cons Tryz.func157 nm157 (.cons Tryz.func158 nm158 (.cons Tryz.func159 nm159 (.cons Tryz.func160 nm160 (.cons Tryz.func161 nm161 (.cons Tryz.func162 nm162 (.cons Tryz.func163 nm163 (.cons Tryz.func164 nm164 (.cons Tryz.func165 nm165 (.cons Tryz.func166 nm166 (.cons Tryz.func167 nm167 (.cons Tryz.func168 nm168 (.cons Tryz.func169 nm169 .nil))))))))))))))))))))))))))))))))))))))))
noncomputable def fil4 : List FI := [⟨170, Tryz.f170, 31525197391609799, false⟩, ⟨171, Tryz.f171, 127, false⟩, ⟨172, Tryz.f172, 7199, false⟩, ⟨173, Tryz.f173, 16140901064495865331, false⟩, ⟨174, Tryz.f174, 32701, true⟩, ⟨175, Tryz.f175, 1853, false⟩, ⟨176, Tryz.f176, 5, false⟩, ⟨177, Tryz.f177, 5, false⟩, ⟨178, Tryz.f178, 5, false⟩, ⟨179, Tryz.f179, 1970324954415231, false⟩, ⟨180, Tryz.f180, 5, false⟩, ⟨181, Tryz.f181, 5, false⟩, ⟨182, Tryz.f182, 13, false⟩, ⟨183, Tryz.f183, 463, false⟩, ⟨184, Tryz.f184, 19, false⟩, ⟨185, Tryz.f185, 19, false⟩, ⟨186, Tryz.f186, 3103, false⟩, ⟨187, Tryz.f187, 499, false⟩, ⟨188, Tryz.f188, 61, false⟩, ⟨189, Tryz.f189, 524191, false⟩, ⟨190, Tryz.f190, 16375, false⟩, ⟨191, Tryz.f191, 1015, false⟩, ⟨192, Tryz.f192, 111, false⟩, ⟨193, Tryz.f193, 77, false⟩, ⟨194, Tryz.f194, 51, true⟩, ⟨195, Tryz.f195, 13, true⟩, ⟨196, Tryz.f196, 70368760964091, false⟩, ⟨197, Tryz.f197, 65587, true⟩, ⟨198, Tryz.f198, 187, false⟩, ⟨199, Tryz.f199, 251, false⟩, ⟨200, Tryz.f200, 31995, false⟩, ⟨201, Tryz.f201, 7419, false⟩, ⟨202, Tryz.f202, 380155, false⟩, ⟨203, Tryz.f203, 507, false⟩, ⟨204, Tryz.f204, 691, false⟩, ⟨205, Tryz.f205, 5, false⟩, ⟨206, Tryz.f206, 5, false⟩, ⟨207, Tryz.f207, 15, false⟩, ⟨211, Tryz.f211, 16371, true⟩, ⟨217, Tryz.f217, 19, true⟩]
theorem nm170 : (Tryz.f170.name == "runtime.NumGoroutine") = false := by kernel_rfl
theorem nm171 : (Tryz.f171.name == "runtime.NumGoroutine") = false := by kernel_rfl
theorem nm172 : (Tryz.f172.name == "runtime.NumGoroutine") = false := by kernel_rfl
theorem nm173 : (Tryz.f173.name == "runtime.NumGoroutine") = false := by kernel_rfl
theorem nm174 : (Tryz.f174.name == "runtime.NumGoroutine") = false := by kernel_rfl
theorem nm175 : (Tryz.f175.name == "runtime.NumGoroutine") = false := by kernel_rfl
theorem nm176 : (Tryz.f176.name == "runtime.NumGoroutine") = false := by kernel_rfl
theorem nm177 : (Tryz.f177.name == "runtime.NumGoroutine") = false := by kernel_rfl
theorem nm178 : (Tryz.f178.name == "runtime.NumGoroutine") = false := by kernel_rfl
theorem nm179 : (Tryz.f179.name == "runtime.NumGoroutine") = false := by kernel_rfl
theorem nm180 : (Tryz.f180.name == "runtime.NumGoroutine") = false := by kernel_rfl
theorem nm181 : (Tryz.f181.name == "runtime.NumGoroutine") = false := by kernel_rfl
theorem nm182 : (Tryz.f182.name == "runtime.NumGoroutine") = false := by kernel_rfl
theorem nm183 : (Tryz.f183.name == "runtime.NumGoroutine") = false := by kernel_rfl
theorem nm184 : (Tryz.f184.name == "runtime.NumGoroutine") = false := by kernel_rfl
theorem nm185 : (Tryz.f185.name == "runtime.NumGoroutine") = false := by kernel_rfl
theorem nm186 : (Tryz.f186.name == "runtime.NumGoroutine") = false := by kernel_rfl
theorem nm187 : (Tryz.f187.name == "runtime.NumGoroutine") = false := by kernel_rfl
theorem nm188 : (Tryz.f188.name == "runtime.NumGoroutine") = false := by kernel_rfl
theorem nm189 : (Tryz.f189.name == "runtime.NumGoroutine") = false := by kernel_rfl
theorem nm190 : (Tryz.f190.name == "runtime.NumGoroutine") = false := by kernel_rfl
theorem nm191 : (Tryz.f191.name == "runtime.NumGoroutine") = false := by kernel_rfl
theorem nm192 : (Tryz.f192.name == "runtime.NumGoroutine") = false := by kernel_rfl
theorem nm193 : (Tryz.f193.name == "runtime.NumGoroutine") = false := by kernel_rfl
theorem nm194 : (Tryz.f194.name == "runtime.NumGoroutine") = false := by kernel_rfl
theorem nm195 : (Tryz.f195.name == "runtime.NumGoroutine") = false := by kernel_rfl
theorem nm196 : (Tryz.f196.name == "runtime.NumGoroutine") = false := by kernel_rfl
theorem nm197 : (Tryz.f197.name == "runtime.NumGoroutine") = false := by kernel_rfl
theorem nm198 : (Tryz.f198.name == "runtime.NumGoroutine") = false := by kernel_rfl
theorem nm199 : (Tryz.f199.name == "runtime.NumGoroutine") = false := by kernel_rfl
theorem nm200 : (Tryz.f200.name == "runtime.NumGoroutine") = false := by kernel_rfl
theorem nm201 : (Tryz.f201.name == "runtime.NumGoroutine") = false := by kernel_rfl
theorem nm202 : (Tryz.f202.name == "runtime.NumGoroutine") = false := by kernel_rfl
theorem nm203 : (Tryz.f203.name == "runtime.NumGoroutine") = false := by kernel_rfl
theorem nm204 : (Tryz.f204.name == "runtime.NumGoroutine") = false := by kernel_rfl
theorem nm205 : (Tryz.f205.name == "runtime.NumGoroutine") = false := by kernel_rfl
theorem nm206 : (Tryz.f206.name == "runtime.NumGoroutine") = false := by kernel_rfl
theorem nm207 : (Tryz.f207.name == "runtime.NumGoroutine") = false := by kernel_rfl
theorem nm211 : (Tryz.f211.name == "runtime.NumGoroutine") = false := by kernel_rfl
theorem nm217 : (Tryz.f217.name == "runtime.NumGoroutine") = false := by kernel_rfl
theorem fil4_ok : AllF Tryz.prog fil4 := (.cons Tryz.func170 nm170 (.cons Tryz.func171 nm171 (.cons Tryz.func172 nm172 (.cons Tryz.func173 nm173 (.cons Tryz.func174 nm174 (.cons Tryz.func175 nm175 (.cons Tryz.func176 nm176 (.cons Tryz.func177 nm177 (.cons Tryz.func178 nm178 (.cons Tryz.func179 nm179 (.cons Tryz.func180 nm180 (.cons Tryz.func181 nm181 (.cons Tryz.func182 nm182 (.cons Tryz.func183 nm183 (.cons Tryz.func184 nm184 (.cons Tryz.func185 nm185 (.cons Tryz.func186 nm186 (.cons Tryz.func187 nm187 (.cons Tryz.func188 nm188 (.cons Tryz.func189 nm189 (.cons Tryz.func190 nm190 (.cons Tryz.func191 nm191 (.cons Tryz.func192 nm192 (.cons Tryz.func193 nm193 (.cons Tryz.func194 nm194 (.cons Tryz.func195 nm195 (.cons Tryz.func196 nm196 (.cons Tryz.func197 nm197 (.cons Tryz.func198 nm198 (.cons Tryz.func199 nm199 (.cons Tryz.func200 nm200 (.cons Tryz.func201 nm201 (.cons Tryz.func202 nm202 (.cons Tryz.func203 nm203 (.cons Tryz.func204 nm204 (.cons Tryz.func205 nm205 (.cons Tryz.func206 nm206 (.cons Tryz.func207 nm207 (.cons Tryz.func211 nm211 (.cons Tryz.func217 nm217 .nil))))))))))))))))))))))))))))))))))))))))
noncomputable def fil5 : List FI := [⟨218, Tryz.f218, 8189, false⟩, ⟨219, Tryz.f219, 51, false⟩, ⟨220, Tryz.f220, 5, false⟩, ⟨221, Tryz.f221, 55, false⟩, ⟨222, Tryz.f222, 51, false⟩, ⟨223, Tryz.f223, 435, false⟩, ⟨224, Tryz.f224, 435, false⟩, ⟨225, Tryz.f225, 435, false⟩, ⟨226, Tryz.f226, 115, false⟩, ⟨228, Tryz.f228, 435, false⟩, ⟨229, Tryz.f229, 15, false⟩, ⟨230, Tryz.f230, 19, false⟩, ⟨231, Tryz.f231, 15, false⟩, ⟨233, Tryz.f233, 19, false⟩, ⟨234, Tryz.f234, 5, false⟩, ⟨235, Tryz.f235, 503, false⟩, ⟨236, Tryz.f236, 435, false⟩, ⟨237, Tryz.f237, 5, false⟩, ⟨238, Tryz.f238, 19, false⟩, ⟨239, Tryz.f239, 15, false⟩, ⟨240, Tryz.f240, 1, false⟩, ⟨241, Tryz.f241, 16327, false⟩, ⟨242, Tryz.f242, 1, false⟩, ⟨243, Tryz.f243, 31525197391594483, false⟩, ⟨244, Tryz.f244, 67699845898419233783547335, true⟩, ⟨245, Tryz.f245, 4332790137498830962147868157, false⟩, ⟨246, Tryz.f246, 63, false⟩, ⟨247, Tryz.f247, 1, false⟩, ⟨248, Tryz.f248, 7, false⟩, ⟨249, Tryz.f249, 29, false⟩, ⟨250, Tryz.f250, 13, false⟩, ⟨251, Tryz.f251, 5, false⟩, ⟨252, Tryz.f252, 19, false⟩, ⟨253, Tryz.f253, 1, false⟩, ⟨254, Tryz.f254, 295147905729109229527, false⟩, ⟨255, Tryz.f255, 2007, false⟩, ⟨256, Tryz.f256, 33554391, false⟩, ⟨257, Tryz.f257, 1699835280697512937054529168470579043312105984170622081095335858521541249563147169787, false⟩, ⟨258, Tryz.f258, 916851, true⟩, ⟨259, Tryz.f259, 499, false⟩]
theorem nm218 : (Tryz.f218.name == "runtime.NumGoroutine") = false := by kernel_rfl
theorem nm219 : (Tryz.f219.name == "runtime.NumGoroutine") = false := by kernel_rfl
theorem nm220 : (Tryz.f220.name == "runtime.NumGoroutine") = false := by kernel_rfl
theorem nm221 : (Tryz.f221.name == "runtime.NumGoroutine") = false := by kernel_rfl
theorem nm222 : (Tryz.f222.name == "runtime.NumGoroutine") = false := by kernel_rfl
theorem nm223 : (Tryz.f223.name == "runtime.NumGoroutine") = false := by kernel_rfl
theorem nm224 : (Tryz.f224.name == "runtime.NumGoroutine") = false := by kernel_rfl
theorem nm225 : (Tryz.f225.name == "runtime.NumGoroutine") = false := by kernel_rfl
theorem nm226 : (Tryz.f226.name == "runtime.NumGoroutine") = false := by kernel_rfl
theorem nm228 : (Tryz.f228.name == "runtime.NumGoroutine") = false := by kernel_rfl
theorem nm229 : (Tryz.f229.name == "runtime.NumGoroutine") = false := by kernel_rfl
theorem nm230 : (Tryz.f230.name == "runtime.NumGoroutine") = false := by kernel_rfl
theorem nm231 : (Tryz.f231.name == "runtime.NumGoroutine") = false := by kernel_rfl
theorem nm233 : (Tryz.f233.name == "runtime.NumGoroutine") = false := by kernel_rfl
theorem nm234 : (Tryz.f234.name == "runtime.NumGoroutine") = false := by kernel_rfl
theorem nm235 : (Tryz.f235.name == "runtime.NumGoroutine") = false := by kernel_rfl
theorem nm236 : (Tryz.f236.name == "runtime.NumGoroutine") = false := by kernel_rfl
theorem nm237 : (Tryz.f237.name == "runtime.NumGoroutine") = false := by kernel_rfl
theorem nm238 : (Tryz.f238.name == "runtime.NumGoroutine") = false := by kernel_rfl
theorem nm239 : (Tryz.f239.name == "runtime.NumGoroutine") = false := by kernel_rfl
theorem nm240 : (Tryz.f240.name == "runtime.NumGoroutine") = false := by kernel_rfl
theorem nm241 : (Tryz.f241.name == "runtime.NumGoroutine") = false := by kernel_rfl
theorem nm242 : (Tryz.f242.name == "runtime.NumGoroutine") = false := by kernel_rfl
theorem nm243 : (Tryz.f243.name == "runtime.NumGoroutine") = false := by kernel_rfl
theorem nm244 : (Tryz.f244.name == "runtime.NumGoroutine") = false := by kernel_rfl
theorem nm245 : (Tryz.f245.name == "runtime.NumGoroutine") = false := by kernel_rfl
theorem nm246 : (Tryz.f246.name == "runtime.NumGoroutine") = false := by kernel_rfl
theorem nm247 : (Tryz.f247.name == "runtime.NumGoroutine") = false := by kernel_rfl
theorem nm248 : (Tryz.f248.name == "runtime.NumGoroutine") = false := by kernel_rfl
theorem nm249 : (Tryz.f249.name == "runtime.NumGoroutine") = false := by kernel_rfl
theorem nm250 : (Tryz.f250.name == "runtime.NumGoroutine") = false := by kernel_rfl
theorem nm251 : (Tryz.f251.name == "runtime.NumGoroutine") = false := by kernel_rfl
theorem nm252 : (Tryz.f252.name == "runtime.NumGoroutine") = false := by kernel_rfl
theorem nm253 : (Tryz.f253.name == "runtime.NumGoroutine") = false := by kernel_rfl
theorem nm254 : (Tryz.f254.name == "runtime.NumGoroutine") = false := by kernel_rfl
theorem nm255 : (Tryz.f255.name == "runtime.NumGoroutine") = false := by kernel_rfl
theorem nm256 : (Tryz.f256.name == "runtime.NumGoroutine") = false := by kernel_rfl
theorem nm257 : (Tryz.f257.name == "runtime.NumGoroutine") = false := by kernel_rfl
theorem nm258 : (Tryz.f258.name == "runtime.NumGoroutine") = false := by kernel_rfl
theorem nm259 : (Tryz.f259.name == "runtime.NumGoroutine") = false := by kernel_rfl
theorem fil5_ok : AllF Tryz.prog fil5 := (.cons Tryz.func218 nm218 (.cons Tryz.func219 nm219 (.cons Tryz.func220 nm220 (.cons Tryz.func221 nm221 (.cons Tryz.func222 nm222 (.cons Tryz.func223 nm223 (.cons Tryz.func224 nm224 (.cons Tryz.func225 nm225 (.cons Tryz.func226 nm226 (.cons Tryz.func228 nm228 (.cons Tryz.func229 nm229 (.cons Tryz.func230 nm230 (.cons Tryz.func231 nm231 (.cons Tryz.func233 nm233 (.cons Tryz.func234 nm234 (.cons Tryz.func235 nm235 (.cons Tryz.func236 nm236 (.cons Tryz.func237 nm237 (.cons Tryz.func238 nm238 (.cons Tryz.func239 nm239 (.cons Tryz.func240 nm240 (.cons Tryz.func241 nm241 (.cons Tryz.func242 nm242 (.cons Tryz.func243 nm243 (.cons Tryz.func244 nm244 (.cons Tryz.func245 nm245 (.cons Tryz.func246 nm246 (.cons Tryz.func247 nm247 (.cons Tryz.func248 nm248 (.cons Tryz.func249 nm249 (.cons Tryz.func250 nm250 (.cons Tryz.func251 nm251 (.cons Tryz.func252 nm252 (.cons Tryz.func253 nm253 (.cons Tryz.func254 nm254 (.cons Tryz.func255 nm255 (.cons Tryz.func256 nm256 (.cons Tryz.func257 nm257 (.cons Tryz.func258 nm258 (.cons Tryz.func259 nm259 .nil))))))))))))))))))))))))))))))))))))))))
noncomputable def fil6 : List FI := [⟨260, Tryz.f260, 30786325581563, false⟩, ⟨261, Tryz.f261, 19, false⟩, ⟨262, Tryz.f262, 131031, false⟩, ⟨263, Tryz.f263, 5, false⟩, ⟨264, Tryz.f264, 5, false⟩, ⟨265, Tryz.f265, 5, false⟩, ⟨266, Tryz.f266, 5, false⟩, ⟨267, Tryz.f267, 5, false⟩, ⟨268, Tryz.f268, 5, false⟩, ⟨269, Tryz.f269, 5, false⟩, ⟨270, Tryz.f270, 5, false⟩, ⟨271, Tryz.f271, 5, false⟩, ⟨272, Tryz.f272, 51, false⟩, ⟨273, Tryz.f273, 23, false⟩, ⟨274, Tryz.f274, 5, false⟩, ⟨275, Tryz.f275, 55, false⟩, ⟨276, Tryz.f276, 71, false⟩, ⟨277, Tryz.f277, 207, false⟩, ⟨278, Tryz.f278, 55, false⟩, ⟨279, Tryz.f279, 55, false⟩, ⟨280, Tryz.f280, 16777119, true⟩, ⟨281, Tryz.f281, 51, false⟩, ⟨282, Tryz.f282, 3871, false⟩, ⟨283, Tryz.f283, 23, false⟩, ⟨284, Tryz.f284, 262095, false⟩, ⟨285, Tryz.f285, 131023, false⟩, ⟨286, Tryz.f286, 247, false⟩, ⟨287, Tryz.f287, 5, false⟩, ⟨288, Tryz.f288, 19, false⟩, ⟨289, Tryz.f289, 3567, true⟩, ⟨290, Tryz.f290, 3, false⟩, ⟨291, Tryz.f291, 3, false⟩, ⟨292, Tryz.f292, 5, false⟩, ⟨293, Tryz.f293, 27, false⟩, ⟨294, Tryz.f294, 61, false⟩, ⟨295, Tryz.f295, 13, false⟩, ⟨296, Tryz.f296, 975, false⟩, ⟨297, Tryz.f297, 499, false⟩, ⟨298, Tryz.f298, 16768799, false⟩, ⟨299, Tryz.f299, 499, false⟩]
theorem nm260 : (Tryz.f260.name == "runtime.NumGoroutine") = false := by kernel_rfl
theorem nm261 : (Tryz.f261.name == "runtime.NumGoroutine") = false := by kernel_rfl
theorem nm262 : (Tryz.f262.name == "runtime.NumGoroutine") = false := by kernel_rfl
theorem nm263 : (Tryz.f263.name == "runtime.NumGoroutine") = false := by kernel_rfl
theorem nm264 : (Tryz.f264.name == "runtime.NumGoroutine") = false := by kernel_rfl
theorem nm265 : (Tryz.f265.name == "runtime.NumGoroutine") = false := by kernel_rfl
theorem nm266 : (Tryz.f266.name == "runtime.NumGoroutine") = false := by kernel_rfl
theorem nm267 : (Tryz.f267.name == "runtime.NumGoroutine") = false := by kernel_rfl
theorem nm268 : (Tryz.f268.name == "runtime.NumGoroutine") = false := by kernel_rfl
theorem nm269 : (Tryz.f269.name == "runtime.NumGoroutine") = false := by kernel_rfl
theorem nm270 : (Tryz.f270.name == "runtime.NumGoroutine") = false := by kernel_rfl
theorem nm271 : (Tryz.f271.name == "runtime.NumGoroutine") = false := by kernel_rfl
theorem nm272 : (Tryz.f272.name == "runtime.NumGoroutine") = false := by kernel_rfl
theorem nm273 : (Tryz.f273.name == "runtime.NumGoroutine") = false := by kernel_rfl
theorem nm274 : (Tryz.f274.name == "runtime.NumGoroutine") = false := by kernel_rfl
theorem nm275 : (Tryz.f275.name == "runtime.NumGoroutine") = false := by kernel_rfl
theorem nm276 : (Tryz.f276.name == "runtime.NumGoroutine") = false := by kernel_rfl
theorem nm277 : (Tryz.f277.name == "runtime.NumGoroutine") = false := by kernel_rfl
theorem nm278 : (Tryz.f278.name == "runtime.NumGoroutine") = false := by kernel_rfl
theorem nm279 : (Tryz.f279.name == "runtime.NumGoroutine") = false := by kernel_rfl
theorem nm280 : (Tryz.f280.name == "runtime.NumGoroutine") = false := by kernel_rfl
theorem nm281 : (Tryz.f281.name == "runtime.NumGoroutine") = false := by kernel_rfl
theorem nm282 : (Tryz.f282.name == "runtime.NumGoroutine") = false := by kernel_rfl
theorem nm283 : (Tryz.f283.name == "runtime.NumGoroutine") = false := by kernel_rfl
theorem nm284 : (Tryz.f284.name == "runtime.NumGoroutine") = false := by kernel_rfl
theorem nm285 : (Tryz.f285.name == "runtime.NumGoroutine") = false := by kernel_rfl
theorem nm286 : (Tryz.f286.name == "runtime.NumGoroutine") = false := by kernel_rfl
theorem nm287 : (Tryz.f287.name == "runtime.NumGoroutine") = false := by kernel_rfl
theorem nm288 : (Tryz.f288.name == "runtime.NumGoroutine") = false := by kernel_rfl
theorem nm289 : (Tryz.f289.name == "runtime.NumGoroutine") = false := by kernel_rfl
theorem nm290 : (Tryz.f290.name == "runtime.NumGoroutine") = false := by kernel_rfl
theorem nm291 : (Tryz.f291.name == "runtime.NumGoroutine") = false := by kernel_rfl
theorem nm292 : (Tryz.f292.name == "runtime.NumGoroutine") = false := by kernel_rfl
theorem nm293 : (Tryz.f293.name == "runtime.NumGoroutine") = false := by kernel_rfl
theorem nm294 : (Tryz.f294.name == "runtime.NumGoroutine") = false := by kernel_rfl
theorem nm295 : (Tryz.f295.name == "runtime.NumGoroutine") = false := by kernel_rfl
theorem nm296 : (Tryz.f296.name == "runtime.NumGoroutine") = false := by kernel_rfl
theorem nm297 : (Tryz.f297.name == "runtime.NumGoroutine") = false := by kernel_rfl
theorem nm298 : (Tryz.f298.name == "runtime.NumGoroutine") = false := by kernel_rfl
theorem nm299 : (Tryz.f299.name == "runtime.NumGoroutine") = false := by kernel_rfl
theorem fil6_ok : AllF Tryz.prog fil6 := (.cons Tryz.func260 nm260 (.cons Tryz.func261 nm261 (.cons Tryz.func262 nm262 (.cons Tryz.func263 nm263 (.cons Tryz.func264 nm264 (.cons Tryz.func265 nm265 (.cons Tryz.func266 nm266 (.cons Tryz.func267 nm267 (.cons Tryz.func268 nm268 (.cons Tryz.func269 nm269 (.cons Tryz.func270 nm270 (.cons Tryz.func271 nm271 (.cons Tryz.func272 nm272 (.cons Tryz.func273 nm273 (.cons Tryz.func274 nm274 (.cons Tryz.func275 nm275 (.cons Tryz.func276 nm276 (.cons Tryz.func277 nm277 (.cons Tryz.func278 nm278 (.cons Tryz.func279 nm279 (.cons Tryz.func280 nm280 (.cons Tryz.func281 nm281 (.cons Tryz.func282 nm282 (.cons Tryz.func283 nm283 (.cons Tryz.func284 nm284 (.cons Tryz.func285 nm285 (.cons Tryz.func286 nm286 (.cons Tryz.func287 nm287 (.cons Tryz.func288 nm288 (.cons Tryz.func289 nm289 (.cons Tryz.func290 nm290 (.cons Tryz.func291 nm291 (.cons Tryz.func292 nm292 (.cons Tryz.func293 nm293 (.cons Tryz.func294 nm294 (.cons Tryz.func295 nm295 (.cons Tryz.func296 nm296 (.cons Tryz.func297 nm297 (.cons Tryz.func298 nm298 (.cons Tryz.func299 nm299 .nil))))))))))))))))))))))))))))))))))))))))
noncomputable def fil7 : List FI := [⟨300, Tryz.f300, 47, false⟩, ⟨301, Tryz.f301, 487, false⟩, ⟨302, Tryz.f302, 33546015, false⟩, ⟨303, Tryz.f303, 509, false⟩, ⟨304, Tryz.f304, 115, false⟩, ⟨305, Tryz.f305, 1311, false⟩, ⟨306, Tryz.f306, 8079, false⟩, ⟨307, Tryz.f307, 3167, false⟩, ⟨308, Tryz.f308, 463, false⟩, ⟨309, Tryz.f309, 19, false⟩, ⟨310, Tryz.f310, 13, false⟩, ⟨311, Tryz.f311, 87, false⟩, ⟨312, Tryz.f312, 19, false⟩, ⟨313, Tryz.f313, 51, false⟩, ⟨314, Tryz.f314, 31, false⟩, ⟨316, Tryz.f316, 19, true⟩, ⟨325, Tryz.f325, 51, false⟩, ⟨326, Tryz.f326, 243, false⟩, ⟨327, Tryz.f327, 435, false⟩, ⟨329, Tryz.f329, 755, false⟩, ⟨330, Tryz.f330, 435, false⟩, ⟨331, Tryz.f331, 918343, false⟩, ⟨332, Tryz.f332, 119, false⟩, ⟨333, Tryz.f333, 32711, true⟩, ⟨334, Tryz.f334, 27, false⟩, ⟨335, Tryz.f335, 1807, false⟩, ⟨336, Tryz.f336, 624439921371405020516954060612416591795961843, false⟩, ⟨337, Tryz.f337, 5, false⟩, ⟨338, Tryz.f338, 29, false⟩, ⟨339, Tryz.f339, 57715, false⟩, ⟨340, Tryz.f340, 499, false⟩, ⟨341, Tryz.f341, 5, false⟩, ⟨342, Tryz.f342, 5, false⟩, ⟨343, Tryz.f343, 23, false⟩, ⟨344, Tryz.f344, 1019, false⟩, ⟨345, Tryz.f345, 182687704666362864775460604089535377456991569659, false⟩, ⟨346, Tryz.f346, 5, false⟩, ⟨347, Tryz.f347, 30786325579507, false⟩, ⟨348, Tryz.f348, 19, false⟩, ⟨349, Tryz.f349, 215, false⟩]
theorem nm300 : (Tryz.f300.name == "runtime.NumGoroutine") = false := by kernel_rfl
theorem nm301 : (Tryz.f301.name == "runtime.NumGoroutine") = false := by kernel_rfl
theorem nm302 : (Tryz.f302.name == "runtime.NumGoroutine") = false := by kernel_rfl
theorem nm303 : (Tryz.f303.name == "runtime.NumGoroutine") = false := by kernel_rfl
theorem nm304 : (Tryz.f304.name == "runtime.NumGoroutine") = false := by kernel_rfl
theorem nm305 : (Tryz.f305.name == "runtime.NumGoroutine") = false := by kernel_rfl
theorem nm306 : (Tryz.f306.name == "runtime.NumGoroutine") = false := by kernel_rfl
theorem nm307 : (Tryz.f307.name == "runtime.NumGoroutine") = false := by kernel_rfl
theorem nm308 : (Tryz.f308.name == "runtime.NumGoroutine") = false := by kernel_rfl
theorem nm309 : (Tryz.f309.name == "runtime.NumGoroutine") = false := by kernel_rfl
theorem nm310 : (Tryz.f310.name == "runtime.NumGoroutine") = false := by kernel_rfl
theorem nm311 : (Tryz.f311.name == "runtime.NumGoroutine") = false := by kernel_rfl
theorem nm312 : (Tryz.f312.name == "runtime.NumGoroutine") = false := by kernel_rfl
theorem nm313 : (Tryz.f313.name == "runtime.NumGoroutine") = false := by kernel_rfl
theorem nm314 : (Tryz.f314.name == "runtime.NumGoroutine") = false := by kernel_rfl
theorem nm316 : (Tryz.f316.name == "runtime.NumGoroutine") = false := by kernel_rfl
theorem nm325 : (Tryz.f325.name == "runtime.NumGoroutine") = false := by kernel_rfl
theorem nm326 : (Tryz.f326.name == "runtime.NumGoroutine") = false := by kernel_rfl
theorem nm327 : (Tryz.f327.name == "runtime.NumGoroutine") = false := by kernel_rfl
theorem nm329 : (Tryz.f329.name == "runtime.NumGoroutine") = false := by kernel_rfl
theorem nm330 : (Tryz.f330.name == "runtime.NumGoroutine") = false := by kernel_rfl
theorem nm331 : (Tryz.f331.name == "runtime.NumGoroutine") = false := by kernel_rfl
theorem nm332 : (Tryz.f332.name == "runtime.NumGoroutine") = false := by kernel_rfl
theorem nm333 : (Tryz.f333.name == "runtime.NumGoroutine") = false := by kernel_rfl
theorem nm334 : (Tryz.f334.name == "runtime.NumGoroutine") = false := by kernel_rfl
theorem nm335 : (Tryz.f335.name == "runtime.NumGoroutine") = false := by kernel_rfl
theorem nm336 : (Tryz.f336.name == "runtime.NumGoroutine") = false := by kernel_rfl
theorem nm337 : (Tryz.f337.name == "runtime.NumGoroutine") = false := by kernel_rfl
theorem nm338 : (Tryz.f338.name == "runtime.NumGoroutine") = false := by kernel_rfl
theorem nm339 : (Tryz.f339.name == "runtime.NumGoroutine") = false := by kernel_rfl
theorem nm340 : (Tryz.f340.name == "runtime.NumGoroutine") = false := by kernel_rfl
theorem nm341 : (Tryz.f341.name == "runtime.NumGoroutine") = false := by kernel_rfl
theorem nm342 : (Tryz.f342.name == "runtime.NumGoroutine") = false := by kernel_rfl
theorem nm343 : (Tryz.f343.name == "runtime.NumGoroutine") = false := by kernel_rfl
theorem nm344 : (Tryz.f344.name == "runtime.NumGoroutine") = false := by kernel_rfl
theorem nm345 : (Tryz.f345.name == "runtime.NumGoroutine") = false := by kernel_rfl
theorem nm346 : (Tryz.f346.name == "runtime.NumGoroutine") = false := by kernel_rfl
theorem nm347 : (Tryz.f347.name == "runtime.NumGoroutine") = false := by kernel_rfl
theorem nm348 : (Tryz.f348.name == "runtime.NumGoroutine") = false := by kernel_rfl
theorem nm349 : (Tryz.f349.name == "runtime.NumGoroutine") = false := by kernel_rfl
theorem fil7_ok : AllF Tryz.prog fil7 := (.cons Tryz.func300 nm300 (.cons Tryz.func301 nm301 (.cons Tryz.func302 nm302 (.cons Tryz.func303 nm303 (.cons Tryz.func304 nm304 (.cons Tryz.func305 nm305 (.cons Tryz.func306 nm306 (.cons Tryz.func307 nm307 (.cons Tryz.func308 nm308 (.cons Tryz.func309 nm309 (.cons Tryz.func310 nm310 (.cons Tryz.func311 nm311 (.cons Tryz.func312 nm312 (.cons Tryz.func313 nm313 (.cons Tryz.func314 nm314 (.cons Tryz.func316 nm316 (.cons Tryz.func325 nm325 (.cons Tryz.func326 nm326 (.cons Tryz.func327 nm327 (.cons Tryz.func329 nm329 (.cons Tryz.func330 nm330 (.cons Tryz.func331 nm331 (.cons Tryz.func332 nm332 (.cons Tryz.func333 nm333 (.cons Tryz.func334 nm334 (.cons Tryz.func335 nm335 (.cons Tryz.func336 nm336 (.cons Tryz.func337 nm337 (.cons Tryz.func338 nm338 (.cons Tryz.func339 nm339 (.cons Tryz.func340 nm340 (.cons Tryz.func341 nm341 (.cons Tryz.func342 nm342 (.cons Tryz.func343 nm343 (.cons Tryz.func344 nm344 (.cons Tryz.func345 nm345 (.cons Tryz.func346 nm346 (.cons Tryz.func347 nm347 (.cons Tryz.func348 nm348 (.cons Tryz.func349 nm349 .nil))))))))))))))))))))))))))))))))))))))))
noncomputable def fil8 : List FI := [⟨350, Tryz.f350, 3103, true⟩, ⟨351, Tryz.f351, 130831, false⟩, ⟨352, Tryz.f352, 5, false⟩, ⟨353, Tryz.f353, 443, false⟩, ⟨354, Tryz.f354, 239, false⟩, ⟨355, Tryz.f355, 30064784175, false⟩, ⟨356, Tryz.f356, 261903, false⟩, ⟨357, Tryz.f357, 119, false⟩, ⟨358, Tryz.f358, 19, false⟩, ⟨359, Tryz.f359, 199, false⟩, ⟨360, Tryz.f360, 61, true⟩, ⟨361, Tryz.f361, 15, false⟩, ⟨362, Tryz.f362, 115, false⟩, ⟨363, Tryz.f363, 463, false⟩, ⟨364, Tryz.f364, 7, false⟩, ⟨365, Tryz.f365, 199, false⟩, ⟨366, Tryz.f366, 16159, false⟩, ⟨367, Tryz.f367, 29, false⟩, ⟨368, Tryz.f368, 463, false⟩, ⟨369, Tryz.f369, 37, false⟩, ⟨370, Tryz.f370, 59, false⟩, ⟨371, Tryz.f371, 1, false⟩, ⟨372, Tryz.f372, 5, true⟩, ⟨373, Tryz.f373, 7967, false⟩, ⟨374, Tryz.f374, 815, false⟩, ⟨375, Tryz.f375, 15423, false⟩, ⟨376, Tryz.f376, 51, false⟩, ⟨377, Tryz.f377, 5, false⟩, ⟨378, Tryz.f378, 8151, false⟩, ⟨379, Tryz.f379, 63, false⟩, ⟨385, Tryz.f385, 5, false⟩, ⟨386, Tryz.f386, 13, false⟩, ⟨387, Tryz.f387, 131059, false⟩, ⟨389, Tryz.f389, 31, false⟩, ⟨390, Tryz.f390, 31, false⟩, ⟨391, Tryz.f391, 2017612633062227855, false⟩, ⟨392, Tryz.f392, 443, false⟩, ⟨393, Tryz.f393, 119, false⟩, ⟨394, Tryz.f394, 130319, false⟩, ⟨395, Tryz.f395, 29, false⟩]
theorem nm350 : (Tryz.f350.name == "runtime.NumGoroutine") = false := by kernel_rfl
theorem nm351 : (Tryz.f351.name == "runtime.NumGoroutine") = false := by kernel_rfl
theorem nm352 : (Tryz.f352.name == "runtime.NumGoroutine") = false := by kernel_rfl
theorem nm353 : (Tryz.f353.name == "runtime.NumGoroutine") = false := by kernel_rfl
theorem nm354 : (Tryz.f354.name == "runtime.NumGoroutine") = false := by kernel_rfl
theorem nm355 : (Tryz.f355.name == "runtime.NumGoroutine") = false := by kernel_rfl
theorem nm356 : (Tryz.f356.name == "runtime.NumGoroutine") = false := by kernel_rfl
theorem nm357 : (Tryz.f357.name == "runtime.NumGoroutine") = false := by kernel_rfl
theorem nm358 : (Tryz.f358.name == "runtime.NumGoroutine") = false := by kernel_rfl
theorem nm359 : (Tryz.f359.name == "runtime.NumGoroutine") = false := by kernel_rfl
theorem nm360 : (Tryz.f360.name == "runtime.NumGoroutine") = false := by kernel_rfl
theorem nm361 : (Tryz.f361.name == "runtime.NumGoroutine") = false := by kernel_rfl
theorem nm362 : (Tryz.f362.name == "runtime.NumGoroutine") = false := by kernel_rfl
theorem nm363 : (Tryz.f363.name == "runtime.NumGoroutine") = false := by kernel_rfl
theorem nm364 : (Tryz.f364.name == "runtime.NumGoroutine") = false := by kernel_rfl
theorem nm365 : (Tryz.f365.name == "runtime.NumGoroutine") = false := by kernel_rfl
theorem nm366 : (Tryz.f366.name == "runtime.NumGoroutine") = false := by kernel_rfl
theorem nm367 : (Tryz.f367.name == "runtime.NumGoroutine") = false := by kernel_rfl
theorem nm368 : (Tryz.f368.name == "runtime.NumGoroutine") = false := by kernel_rfl
theorem nm369 : (Tryz.f369.name == "runtime.NumGoroutine") = false := by kernel_rfl
theorem nm370 : (Tryz.f370.name == "runtime.NumGoroutine") = false := by kernel_rfl
theorem nm371 : (Tryz.f371.name == "runtime.NumGoroutine") = false := by kernel_rfl
theorem nm372 : (Tryz.f372.name == "runtime.NumGoroutine") = false := by kernel_rfl
theorem nm373 : (Tryz.f373.name == "runtime.NumGoroutine") = false := by kernel_rfl
theorem nm374 : (Tryz.f374.name == "runtime.NumGoroutine") = false := by kernel_rfl
theorem nm375 : (Tryz.f375.name == "runtime.NumGoroutine") = false := by kernel_rfl
theorem nm376 : (Tryz.f376.name == "runtime.NumGoroutine") = false := by kernel_rfl
theorem nm377 : (Tryz.f377.name == "runtime.NumGoroutine") = false := by kernel_rfl
theorem nm378 : (Tryz.f378.name == "runtime.NumGoroutine") = false := by kernel_rfl
theorem nm379 : (Tryz.f379.name == "runtime.NumGoroutine") = false := by kernel_rfl
theorem nm385 : (Tryz.f385.name == "runtime.NumGoroutine") = false := by kernel_rfl
theorem nm386 : (Tryz.f386.name == "runtime.NumGoroutine") = false := by kernel_rfl
theorem nm387 : (Tryz.f387.name == "runtime.NumGoroutine") = false := by kernel_rfl
theorem nm389 : (Tryz.f389.name == "runtime.NumGoroutine") = false := by kernel_rfl
theorem nm390 : (Tryz.f390.name == "runtime.NumGoroutine") = false := by kernel_rfl
theorem nm391 : (Tryz.f391.name == "runtime.NumGoroutine") = false := by kernel_rfl
theorem nm392 : (Tryz.f392.name == "runtime.NumGoroutine") = false := by kernel_rfl
theorem nm393 : (Tryz.f393.name == "runtime.NumGoroutine") = false := by kernel_rfl
theorem nm394 : (Tryz.f394.name == "runtime.NumGoroutine") = false := by kernel_rfl
theorem nm395 : (Tryz.f395.name == "runtime.NumGoroutine") = false := by kernel_rfl
theorem fil8_ok : AllF Tryz.prog fil8 := (.cons Tryz.func350 nm350 (.cons Tryz.func351 nm351 (.cons Tryz.func352 nm352 (.cons Tryz.func353 nm353 (.cons Tryz.func354 nm354 (.cons Tryz.func355 nm355 (.cons Tryz.func356 nm356 (.cons Tryz.func357 nm357 (.cons Tryz.func358 nm358 (.cons Tryz.func359 nm359 (.cons Tryz.func360 nm360 (.cons Tryz.func361 nm361 (.cons Tryz.func362 nm362 (.cons Tryz.func363 nm363 (.cons Tryz.func364 nm364 (.cons Tryz.func365 nm365 (.cons Tryz.func366 nm366 (.cons Tryz.func367 nm367 (.cons Tryz.func368 nm368 (.cons Tryz.func369 nm369 (.cons Tryz.func370 nm370 (.cons Tryz.func371 nm371 (.cons Tryz.func372 nm372 (.cons Tryz.func373 nm373 (.cons Tryz.func374 nm374 (.cons Tryz.func375 nm375 (.cons Tryz.func376 nm376 (.cons Tryz.func377 nm377 (.cons Tryz.func378 nm378 (.cons Tryz.func379 nm379 (.cons Tryz.func385 nm385 (.cons Tryz.func386 nm386 (.cons Tryz.func387 nm387 (.cons Tryz.func389 nm389 (.cons Tryz.func390 nm390 (.cons Tryz.func391 nm391 (.cons Tryz.func392 nm392 (.cons Tryz.func393 nm393 (.cons Tryz.func394 nm394 (.cons Tryz.func395 nm395 .nil))))))))))))))))))))))))))))))))))))))))
noncomputable def fil9 : List FI := [⟨396, Tryz.f396, 3758097095, false⟩, ⟨397, Tryz.f397, 4023, false⟩, ⟨398, Tryz.f398, 393671, false⟩, ⟨399, Tryz.f399, 1, false⟩, ⟨400, Tryz.f400, 19, false⟩, ⟨401, Tryz.f401, 251, false⟩, ⟨402, Tryz.f402, 243, false⟩, ⟨403, Tryz.f403, 199, false⟩, ⟨404, Tryz.f404, 8147, false⟩, ⟨405, Tryz.f405, 140857747565499, false⟩, ⟨406, Tryz.f406, 19, false⟩, ⟨407, Tryz.f407, 1, false⟩, ⟨408, Tryz.f408, 16140901065435410191, false⟩, ⟨409, Tryz.f409, 12607, false⟩, ⟨410, Tryz.f410, 23, false⟩, ⟨411, Tryz.f411, 130079, false⟩, ⟨412, Tryz.f412, 435, false⟩, ⟨413, Tryz.f413, 31, false⟩, ⟨414, Tryz.f414, 253, false⟩, ⟨415, Tryz.f415, 255, true⟩, ⟨416, Tryz.f416, 13, false⟩, ⟨417, Tryz.f417, 63, false⟩, ⟨418, Tryz.f418, 63, false⟩, ⟨419, Tryz.f419, 63, false⟩, ⟨420, Tryz.f420, 511, true⟩, ⟨421, Tryz.f421, 29, false⟩, ⟨422, Tryz.f422, 65311, false⟩, ⟨423, Tryz.f423, 5, false⟩, ⟨424, Tryz.f424, 5, false⟩, ⟨425, Tryz.f425, 115, false⟩, ⟨426, Tryz.f426, 51, false⟩, ⟨427, Tryz.f427, 499, false⟩, ⟨428, Tryz.f428, 11, false⟩, ⟨429, Tryz.f429, 463, false⟩, ⟨430, Tryz.f430, 7967, false⟩, ⟨431, Tryz.f431, 799, false⟩, ⟨434, Tryz.f434, 5, false⟩, ⟨435, Tryz.f435, 5, false⟩, ⟨436, Tryz.f436, 5, false⟩, ⟨439, Tryz.f439, 435, false⟩]
theorem nm396 : (Tryz.f396.name == "runtime.NumGoroutine") = false := by kernel_rfl
theorem nm397 : (Tryz.f397.name == "runtime.NumGoroutine") = false := by kernel_rfl
theorem nm398 : (Tryz.f398.name == "runtime.NumGoroutine") = false := by kernel_rfl
theorem nm399 : (Tryz.f399.name == "runtime.NumGoroutine") = false := by kernel_rfl
theorem nm400 : (Tryz.f400.name == "runtime.NumGoroutine") = false := by kernel_rfl
theorem nm401 : (Tryz.f401.name == "runtime.NumGoroutine") = false := by kernel_rfl
theorem nm402 : (Tryz.f402.name == "runtime.NumGoroutine") = false := by kernel_rfl
theorem nm403 : (Tryz.f403.name == "runtime.NumGoroutine") = false := by kernel_rfl
theorem nm404 : (Tryz.f404.name == "runtime.NumGoroutine") = false := by kernel_rfl
theorem nm405 : (Tryz.f405.name == "runtime.NumGoroutine") = false := by kernel_rfl
theorem nm406 : (Tryz.f406.name == "runtime.NumGoroutine") = false := by kernel_rfl
theorem nm407 : (Tryz.f407.name == "runtime.NumGoroutine") = false := by kernel_rfl
theorem nm408 : (Tryz.f408.name == "runtime.NumGoroutine") = false := by kernel_rfl
theorem nm409 : (Tryz.f409.name == "runtime.NumGoroutine") = false := by kernel_rfl
theorem nm410 : (Tryz.f410.name == "runtime.NumGoroutine") = false := by kernel_rfl
theorem nm411 : (Tryz.f411.name == "runtime.NumGoroutine") = false := by kernel_rfl
theorem nm412 : (Tryz.f412.name == "runtime.NumGoroutine") = false := by kernel_rfl
theorem nm413 : (Tryz.f413.name == "runtime.NumGoroutine") = false := by kernel_rfl
theorem nm414 : (Tryz.f414.name == "runtime.NumGoroutine") = false := by kernel_rfl
theorem nm415 : (Tryz.f415.name == "runtime.NumGoroutine") = false := by kernel_rfl
theorem nm416 : (Tryz.f416.name == "runtime.NumGoroutine") = false := by kernel_rfl
theorem nm417 : (Tryz.f417.name == "runtime.NumGoroutine") = false := by kernel_rfl
theorem nm418 : (Tryz.f418.name == "runtime.NumGoroutine") = false := by kernel_rfl
theorem nm419 : (Tryz.f419.name == "runtime.NumGoroutine") = false := by kernel_rfl
theorem nm420 : (Tryz.f420.name == "runtime.NumGoroutine") = false := by kernel_rfl
theorem nm421 : (Tryz.f421.name == "runtime.NumGoroutine") = false := by kernel_rfl
theorem nm422 : (Tryz.f422.name == "runtime.NumGoroutine") = false := by kernel_rfl
theorem nm423 : (Tryz.f423.name == "runtime.NumGoroutine") = false := by kernel_rfl
theorem nm424 : (Tryz.f424.name == "runtime.NumGoroutine") = false := by kernel_rfl
theorem nm425 : (Tryz.f425.name == "runtime.NumGoroutine") = false := by kernel_rfl
theorem nm426 : (Tryz.f426.name == "runtime.NumGoroutine") = false := by kernel_rfl
theorem nm427 : (Tryz.f427.name == "runtime.NumGoroutine") = false := by kernel_rfl
theorem nm428 : (Tryz.f428.name == "runtime.NumGoroutine") = false := by kernel_rfl
theorem nm429 : (Tryz.f429.name == "runtime.NumGoroutine") = false := by kernel_rfl
theorem nm430 : (Tryz.f430.name == "runtime.NumGoroutine") = false := by kernel_rfl
theorem nm431 : (Tryz.f431.name == "runtime.NumGoroutine") = false := by kernel_rfl
theorem nm434 : (Tryz.f434.name == "runtime.NumGoroutine") = false := by kernel_rfl
theorem nm435 : (Tryz.f435.name == "runtime.NumGoroutine") = false := by kernel_rfl
theorem nm436 : (Tryz.f436.name == "runtime.NumGoroutine") = false := by kernel_rfl
theorem nm439 : (Tryz.f439.name == "runtime.NumGoroutine") = false := by kernel_rfl
theorem fil9_ok : AllF Tryz.prog fil9 := (.cons Tryz.func396 nm396 (.cons Tryz.func397 nm397 (.cons Tryz.func398 nm398 (.cons Tryz.func399 nm399 (.cons Tryz.func400 nm400 (.cons Tryz.func401 nm401 (.cons Tryz.func402 nm402 (.cons Tryz.func403 nm403 (.cons Tryz.func404 nm404 (.cons Tryz.func405 nm405 (.cons Tryz.func406 nm406 (.cons Tryz.func407 nm407 (.cons Tryz.func408 nm408 (.cons Tryz.func409 nm409 (.cons Tryz.func410 nm410 (.cons Tryz.func411 nm411 (.cons Tryz.func412 nm412 (.cons Tryz.func413 nm413 (.cons Tryz.func414 nm414 (.cons Tryz.func415 nm415 (.cons Tryz.func416 nm416 (.cons Tryz.func417 nm417 (.cons Tryz.func418 nm418 (.cons Tryz.func419 nm419 (.cons Tryz.func420 nm420 (.cons Tryz.func421 nm421 (.cons Tryz.func422 nm422 (.cons Tryz.func423 nm423 (.cons Tryz.func424 nm424 (.cons Tryz.func425 nm425 (.cons Tryz.func426 nm426 (.cons Tryz.func427 nm427 (.cons Tryz.func428 nm428 (.cons Tryz.func429 nm429 (.cons Tryz.func430 nm430 (.cons Tryz.func431 nm431 (.cons Tryz.func434 nm434 (.cons Tryz.func435 nm435 (.cons Tryz.func436 nm436 (.cons Tryz.func439 nm439 .nil))))))))))))))))))))))))))))))))))))))))
noncomputable def fil10 : List FI := [⟨440, Tryz.f440, 15, false⟩, ⟨441, Tryz.f441, 15, false⟩, ⟨442, Tryz.f442, 435, false⟩, ⟨443, Tryz.f443, 31, false⟩, ⟨444, Tryz.f444, 19, false⟩, ⟨445, Tryz.f445, 481036367855, false⟩, ⟨446, Tryz.f446, 1015, false⟩, ⟨447, Tryz.f447, 61, false⟩, ⟨448, Tryz.f448, 7, false⟩, ⟨449, Tryz.f449, 51, false⟩, ⟨450, Tryz.f450, 123145302325007, false⟩, ⟨451, Tryz.f451, 19, true⟩, ⟨452, Tryz.f452, 61, false⟩, ⟨453, Tryz.f453, 5, true⟩, ⟨454, Tryz.f454, 29, false⟩, ⟨455, Tryz.f455, 13, false⟩, ⟨456, Tryz.f456, 5, false⟩, ⟨457, Tryz.f457, 23, false⟩, ⟨458, Tryz.f458, 5, false⟩, ⟨459, Tryz.f459, 127, true⟩, ⟨460, Tryz.f460, 33395, false⟩, ⟨461, Tryz.f461, 37, false⟩, ⟨462, Tryz.f462, 31, false⟩, ⟨463, Tryz.f463, 63, false⟩, ⟨464, Tryz.f464, 959, false⟩, ⟨465, Tryz.f465, 447, true⟩, ⟨466, Tryz.f466, 479, false⟩, ⟨467, Tryz.f467, 207, false⟩, ⟨468, Tryz.f468, 243, false⟩, ⟨469, Tryz.f469, 243, false⟩, ⟨470, Tryz.f470, 199, false⟩, ⟨471, Tryz.f471, 763, false⟩, ⟨472, Tryz.f472, 1, false⟩, ⟨473, Tryz.f473, 1, false⟩, ⟨474, Tryz.f474, 107, false⟩, ⟨475, Tryz.f475, 11, false⟩, ⟨476, Tryz.f476, 91, false⟩, ⟨477, Tryz.f477, 36028797018971611, false⟩, ⟨478, Tryz.f478, 1, false⟩, ⟨479, Tryz.f479, 2097195, false⟩]
theorem nm440 : (Tryz.f440.name == "runtime.NumGoroutine") = false := by kernel_rfl
theorem nm441 : (Tryz.f441.name == "runtime.NumGoroutine") = false := by kernel_rfl
theorem nm442 : (Tryz.f442.name == "runtime.NumGoroutine") = false := by kernel_rfl
theorem nm443 : (Tryz.f443.name == "runtime.NumGoroutine") = false := by kernel_rfl
theorem nm444 : (Tryz.f444.name == "runtime.NumGoroutine") = false := by kernel_rfl
theorem nm445 : (Tryz.f445.name == "runtime.NumGoroutine") = false := by kernel_rfl
theorem nm446 : (Tryz.f446.name == "runtime.NumGoroutine") = false := by kernel_rfl
theorem nm447 : (Tryz.f447.name == "runtime.NumGoroutine") = false := by kernel_rfl
theorem nm448 : (Tryz.f448.name == "runtime.NumGoroutine") = false := by kernel_rfl
theorem nm449 : (Tryz.f449.name == "runtime.NumGoroutine") = false := by kernel_rfl
theorem nm450 : (Tryz.f450.name == "runtime.NumGoroutine") = false := by kernel_rfl
theorem nm451 : (Tryz.f451.name == "runtime.NumGoroutine") = false := by kernel_rfl
theorem nm452 : (Tryz.f452.name == "runtime.NumGoroutine") = false := by kernel_rfl
theorem nm453 : (Tryz.f453.name == "runtime.NumGoroutine") = false := by kernel_rfl
theorem nm454 : (Tryz.f454.name == "runtime.NumGoroutine") = false := by kernel_rfl
theorem nm455 : (Tryz.f455.name == "runtime.NumGoroutine") = false := by kernel_rfl
theorem nm456 : (Tryz.f456.name == "runtime.NumGoroutine") = false := by kernel_rfl
theorem nm457 : (Tryz.f457.name == "runtime.NumGoroutine") = false := by kernel_rfl
theorem nm458 : (Tryz.f458.name == "runtime.NumGoroutine") = false := by kernel_rfl
theorem nm459 : (Tryz.f459.name == "runtime.NumGoroutine") = false := by kernel_rfl
theorem nm460 : (Tryz.f460.name == "runtime.NumGoroutine") = false := by kernel_rfl
theorem nm461 : (Tryz.f461.name == "runtime.NumGoroutine") = false := by kernel_rfl
theorem nm462 : (Tryz.f462.name == "runtime.NumGoroutine") = false := by kernel_rfl
theorem nm463 : (Tryz.f463.name == "runtime.NumGoroutine") = false := by kernel_rfl
theorem nm464 : (Tryz.f464.name == "runtime.NumGoroutine") = false := by kernel_rfl
theorem nm465 : (Tryz.f465.name == "runtime.NumGoroutine") = false := by kernel_rfl
theorem nm466 : (Tryz.f466.name == "runtime.NumGoroutine") = false := by kernel_rfl
theorem nm467 : (Tryz.f467.name == "runtime.NumGoroutine") = false := by kernel_rfl
theorem nm468 : (Tryz.f468.name == "runtime.NumGoroutine") = false := by kernel_rfl
theorem nm469 : (Tryz.f469.name == "runtime.NumGoroutine") = false := by kernel_rfl
theorem nm470 : (Tryz.f470.name == "runtime.NumGoroutine") = false := by kernel_rfl
theorem nm471 : (Tryz.f471.name == "runtime.NumGoroutine") = false := by kernel_rfl
theorem nm472 : (Tryz.f472.name == "runtime.NumGoroutine") = false := by kernel_rfl
theorem nm473 : (Tryz.f473.name == "runtime.NumGoroutine") = false := by kernel_rfl
theorem nm474 : (Tryz.f474.name == "runtime.NumGoroutine") = false := by kernel_rfl
theorem nm475 : (Tryz.f475.name == "runtime.NumGoroutine") = false := by kernel_rfl
theorem nm476 : (Tryz.f476.name == "runtime.NumGoroutine") = false := by kernel_rfl
theorem nm477 : (Tryz.f477.name == "runtime.NumGoroutine") = false := by kernel_rfl
theorem nm478 : (Tryz.f478.name == "runtime.NumGoroutine") = false := by kernel_rfl
theorem nm479 : (Tryz.f479.name == "runtime.NumGoroutine") = false := by kernel_rfl
theorem fil10_ok : AllF Tryz.prog fil10 := (.cons Tryz.func440 nm440 (.cons Tryz.func441 nm441 (.cons Tryz.func442 nm442 (.cons Tryz.func443 nm443 (.cons Tryz.func444 nm444 (.cons Tryz.func445 nm445 (.cons Tryz.func446 nm446 (.cons Tryz.func447 nm447 (.cons Tryz.func448 nm448 (.cons Tryz.func449 nm449 (.cons Tryz.func450 nm450 (.cons Tryz.func451 nm451 (.cons Tryz.func452 nm452 (.cons Tryz.func453 nm453 (.cons Tryz.func454 nm454 (.cons Tryz.func455 nm455 (.cons Tryz.func456 nm456 (.cons Tryz.func457 nm457 (.cons Tryz.func458 nm458 (.cons Tryz.func459 nm459 (.cons Tryz.func460 nm460 (.cons Tryz.func461 nm461 (.cons Tryz.func462 nm462 (.cons Tryz.func463 nm463 (.cons Tryz.func464 nm464 (.cons Tryz.func465 nm465 (.cons Tryz.func466 nm466 (.cons Tryz.func467 nm467 (.cons Tryz.func468 nm468 (.cons Tryz.func469 nm469 (.cons Tryz.func470 nm470 (.cons Tryz.func471 nm471 (.cons Tryz.func472 nm472 (.cons Tryz.func473 nm473 (.cons Tryz.func474 nm474 (.cons Tryz.func475 nm475 (.cons Tryz.func476 nm476 (.cons Tryz.func477 nm477 (.cons Tryz.func478 nm478 (.cons Tryz.func479 nm479 .nil))))))))))))))))))))))))))))))))))))))))
noncomputable def fil11 : List FI := [⟨482, Tryz.f482, 435, false⟩, ⟨483, Tryz.f483, 5, false⟩, ⟨484, Tryz.f484, 61, false⟩, ⟨485, Tryz.f485, 243, false⟩, ⟨487, Tryz.f487, 16777485, false⟩, ⟨488, Tryz.f488, 507, true⟩, ⟨489, Tryz.f489, 29, false⟩, ⟨490, Tryz.f490, 71, false⟩, ⟨491, Tryz.f491, 8477, false⟩, ⟨492, Tryz.f492, 55, false⟩, ⟨493, Tryz.f493, 503, false⟩, ⟨494, Tryz.f494, 19, false⟩, ⟨495, Tryz.f495, 103, false⟩, ⟨496, Tryz.f496, 29, false⟩, ⟨497, Tryz.f497, 11, false⟩, ⟨498, Tryz.f498, 243, false⟩, ⟨499, Tryz.f499, 524047, false⟩, ⟨500, Tryz.f500, 5, false⟩, ⟨501, Tryz.f501, 125, false⟩, ⟨502, Tryz.f502, 199, false⟩, ⟨508, Tryz.f508, 19, false⟩, ⟨517, Tryz.f517, 5, false⟩]
theorem nm482 : (Tryz.f482.name == "runtime.NumGoroutine") = false := by kernel_rfl
theorem nm483 : (Tryz.f483.name == "runtime.NumGoroutine") = false := by kernel_rfl
theorem nm484 : (Tryz.f484.name == "runtime.NumGoroutine") = false := by kernel_rfl
theorem nm485 : (Tryz.f485.name == "runtime.NumGoroutine") = false := by kernel_rfl
theorem nm487 : (Tryz.f487.name == "runtime.NumGoroutine") = false := by kernel_rfl
theorem nm488 : (Tryz.f488.name == "runtime.NumGoroutine") = false := by kernel_rfl
theorem nm489 : (Tryz.f489.name == "runtime.NumGoroutine") = false := by kernel_rfl
theorem nm490 : (Tryz.f490.name == "runtime.NumGoroutine") = false := by kernel_rfl
theorem nm491 : (Tryz.f491.name == "runtime.NumGoroutine") = false := by kernel_rfl
theorem nm492 : (Tryz.f492.name == "runtime.NumGoroutine") = false := by kernel_rfl
theorem nm493 : (Tryz.f493.name == "runtime.NumGoroutine") = false := by kernel_rfl
theorem nm494 : (Tryz.f494.name == "runtime.NumGoroutine") = false := by kernel_rfl
theorem nm495 : (Tryz.f495.name == "runtime.NumGoroutine") = false := by kernel_rfl
theorem nm496 : (Tryz.f496.name == "runtime.NumGoroutine") = false := by kernel_rfl
theorem nm497 : (Tryz.f497.name == "runtime.NumGoroutine") = false := by kernel_rfl
theorem nm498 : (Tryz.f498.name == "runtime.NumGoroutine") = false := by kernel_rfl
theorem nm499 : (Tryz.f499.name == "runtime.NumGoroutine") = false := by kernel_rfl
theorem nm500 : (Tryz.f500.name == "runtime.NumGoroutine") = false := by kernel_rfl
theorem nm501 : (Tryz.f501.name == "runtime.NumGoroutine") = false := by kernel_rfl
theorem nm502 : (Tryz.f502.name == "runtime.NumGoroutine") = false := by kernel_rfl
theorem nm508 : (Tryz.f508.name == "runtime.NumGoroutine") = false := by kernel_rfl
theorem nm517 : (Tryz.f517.name == "runtime.NumGoroutine") = false := by kernel_rfl
theorem fil11_ok : AllF Tryz.prog fil11 := (.cons Tryz.func482 nm482 (.cons Tryz.func483 nm483 (.cons Tryz.func484 nm484 (.cons Tryz.func485 nm485 (.cons Tryz.func487 nm487 (.cons Tryz.func488 nm488 (.cons Tryz.func489 nm489 (.cons Tryz.func490 nm490 (.cons Tryz.func491 nm491 (.cons Tryz.func492 nm492 (.cons Tryz.func493 nm493 (.cons Tryz.func494 nm494 (.cons Tryz.func495 nm495 (.cons Tryz.func496 nm496 (.cons Tryz.func497 nm497 (.cons Tryz.func498 nm498 (.cons Tryz.func499 nm499 (.cons Tryz.func500 nm500 (.cons Tryz.func501 nm501 (.cons Tryz.func502 nm502 (.cons Tryz.func508 nm508 (.cons Tryz.func517 nm517 .nil))))))))))))))))))))))
noncomputable def fil : List FI := fil0 ++ fil1 ++ fil2 ++ fil3 ++ fil4 ++ fil5 ++ fil6 ++ fil7 ++ fil8 ++ fil9 ++ fil10 ++ fil11
theorem fil_ok : AllF Tryz.prog fil := (((((((((((fil0_ok).app fil1_ok).app fil2_ok).app fil3_ok).app fil4_ok).app fil5_ok).app fil6_ok).app fil7_ok).app fil8_ok).app fil9_ok).app fil10_ok).app fil11_ok
def XT : Nat → Option XK := fun f => bif Nat.beq f 210 then some (.cnt) else bif Nat.beq f 232 then some (.same) else bif Nat.beq f 328 then some (.mnz 327681) else bif Nat.beq f 380 then some (.ixb) else none
theorem x210 : XRun Tryz.prog 210 Extern.BytealgCount.count := ⟨Tryz.f210, Tryz.func210, by kernel_rfl, by kernel_rfl, by kernel_rfl, by kernel_rfl⟩
theorem x232 : XRun Tryz.prog 232 Extern.AbiNoEscape.same := ⟨Tryz.f232, Tryz.func232, by kernel_rfl, by kernel_rfl, by kernel_rfl, by kernel_rfl⟩
theorem x328 : XOk Tryz.prog 328 (.mnz 327681) := ⟨Tryz.f328.params, Tryz.f328.resultTypes[0]!, 5, ⟨Tryz.f328, Tryz.func328, by kernel_rfl, by kernel_rfl, by kernel_rfl, by kernel_rfl⟩, by kernel_rfl, rfl⟩
theorem x380 : XRun Tryz.prog 380 Extern.BytealgIndexByte.indexByte := ⟨Tryz.f380, Tryz.func380, by kernel_rfl, by kernel_rfl, by kernel_rfl, by kernel_rfl⟩
theorem XT_ok : ∀ f k, XT f = some k → XOk Tryz.prog f k := by
  intro f k h
  unfold XT at h
  cases h210 : Nat.beq f 210 with
  | true =>
    rw [h210] at h
    injection h with h
    subst h
    rw [Nat.eq_of_beq_eq_true h210]
    exact x210
  | false =>
  rw [h210, cond_false] at h
  cases h232 : Nat.beq f 232 with
  | true =>
    rw [h232] at h
    injection h with h
    subst h
    rw [Nat.eq_of_beq_eq_true h232]
    exact x232
  | false =>
  rw [h232, cond_false] at h
  cases h328 : Nat.beq f 328 with
  | true =>
    rw [h328] at h
    injection h with h
    subst h
    rw [Nat.eq_of_beq_eq_true h328]
    exact x328
  | false =>
  rw [h328, cond_false] at h
  cases h380 : Nat.beq f 380 with
  | true =>
    rw [h380] at h
    injection h with h
    subst h
    rw [Nat.eq_of_beq_eq_true h380]
    exact x380
  | false =>
  rw [h380, cond_false] at h
  cases h
theorem mixed : Tryz.prog.follows .mixedOrders = true := by kernel_rfl
end Go.Proofs.YtmbnogellhoheaaGreatDoor.Run
