/- The tables of this program for the abstract machine: tries of the loaded constants. -/
import Derived.Test.YtmlogeklbcgjnaaGreatDoorVmOps
import Derived.Test.YtmlogeklbcgjnaaGreatDoorProg
namespace Go.Vm.Tryz
open Go.Proofs.Tryz
set_option maxRecDepth 100000
private abbrev n {α : Type} := @Tr.node α
private abbrev l {α : Type} := @Tr.leaf α
noncomputable def tys : Tr TypeInfo :=
  (n (n (n (n (n (n (n (n (n l (some t255) l) (some t127) l) (some t63) (n (n l (some t319) l) (some t191) l)) (some t31) (n (n (n l (some t287) l) (some t159) l) (some t95) (n l
  (some t223) l))) (some t15) (n (n (n (n l (some t271) l) (some t143) l) (some t79) (n l (some t207) l)) (some t47) (n (n (n l (some t303) l) (some t175) l) (some t111) (n l (some
  t239) l)))) (some t7) (n (n (n (n (n l (some t263) l) (some t135) l) (some t71) (n l (some t199) l)) (some t39) (n (n (n l (some t295) l) (some t167) l) (some t103) (n l (some t231)
  l))) (some t23) (n (n (n (n l (some t279) l) (some t151) l) (some t87) (n l (some t215) l)) (some t55) (n (n (n l (some t311) l) (some t183) l) (some t119) (n l (some t247) l)))))
  (some t3) (n (n (n (n (n (n l (some t259) l) (some t131) l) (some t67) (n (n l (some t323) l) (some t195) l)) (some t35) (n (n (n l (some t291) l) (some t163) l) (some t99) (n l
  (some t227) l))) (some t19) (n (n (n (n l (some t275) l) (some t147) l) (some t83) (n l (some t211) l)) (some t51) (n (n (n l (some t307) l) (some t179) l) (some t115) (n l (some
  t243) l)))) (some t11) (n (n (n (n (n l (some t267) l) (some t139) l) (some t75) (n l (some t203) l)) (some t43) (n (n (n l (some t299) l) (some t171) l) (some t107) (n l (some
  t235) l))) (some t27) (n (n (n (n l (some t283) l) (some t155) l) (some t91) (n l (some t219) l)) (some t59) (n (n (n l (some t315) l) (some t187) l) (some t123) (n l (some t251)
  l)))))) (some t1) (n (n (n (n (n (n (n l (some t257) l) (some t129) l) (some t65) (n (n l (some t321) l) (some t193) l)) (some t33) (n (n (n l (some t289) l) (some t161) l) (some
  t97) (n l (some t225) l))) (some t17) (n (n (n (n l (some t273) l) (some t145) l) (some t81) (n l (some t209) l)) (some t49) (n (n (n l (some t305) l) (some t177) l) (some t113) (n
  l (some t241) l)))) (some t9) (n (n (n (n (n l (some t265) l) (some t137) l) (some t73) (n l (some t201) l)) (some t41) (n (n (n l (some t297) l) (some t169) l) (some t105) (n l
  (some t233) l))) (some t25) (n (n (n (n l (some t281) l) (some t153) l) (some t89) (n l (some t217) l)) (some t57) (n (n (n l (some t313) l) (some t185) l) (some t121) (n l (some
  t249) l))))) (some t5) (n (n (n (n (n (n l (some t261) l) (some t133) l) (some t69) (n (n l (some t325) l) (some t197) l)) (some t37) (n (n (n l (some t293) l) (some t165) l) (some
  t101) (n l (some t229) l))) (some t21) (n (n (n (n l (some t277) l) (some t149) l) (some t85) (n l (some t213) l)) (some t53) (n (n (n l (some t309) l) (some t181) l) (some t117) (n
  l (some t245) l)))) (some t13) (n (n (n (n (n l (some t269) l) (some t141) l) (some t77) (n l (some t205) l)) (some t45) (n (n (n l (some t301) l) (some t173) l) (some t109) (n l
  (some t237) l))) (some t29) (n (n (n (n l (some t285) l) (some t157) l) (some t93) (n l (some t221) l)) (some t61) (n (n (n l (some t317) l) (some t189) l) (some t125) (n l (some
  t253) l))))))) (some t0) (n (n (n (n (n (n (n (n l (some t256) l) (some t128) l) (some t64) (n (n l (some t320) l) (some t192) l)) (some t32) (n (n (n l (some t288) l) (some t160)
  l) (some t96) (n l (some t224) l))) (some t16) (n (n (n (n l (some t272) l) (some t144) l) (some t80) (n l (some t208) l)) (some t48) (n (n (n l (some t304) l) (some t176) l) (some
  t112) (n l (some t240) l)))) (some t8) (n (n (n (n (n l (some t264) l) (some t136) l) (some t72) (n l (some t200) l)) (some t40) (n (n (n l (some t296) l) (some t168) l) (some t104)
  (n l (some t232) l))) (some t24) (n (n (n (n l (some t280) l) (some t152) l) (some t88) (n l (some t216) l)) (some t56) (n (n (n l (some t312) l) (some t184) l) (some t120) (n l
  (some t248) l))))) (some t4) (n (n (n (n (n (n l (some t260) l) (some t132) l) (some t68) (n (n l (some t324) l) (some t196) l)) (some t36) (n (n (n l (some t292) l) (some t164) l)
  (some t100) (n l (some t228) l))) (some t20) (n (n (n (n l (some t276) l) (some t148) l) (some t84) (n l (some t212) l)) (some t52) (n (n (n l (some t308) l) (some t180) l) (some
  t116) (n l (some t244) l)))) (some t12) (n (n (n (n (n l (some t268) l) (some t140) l) (some t76) (n l (some t204) l)) (some t44) (n (n (n l (some t300) l) (some t172) l) (some
  t108) (n l (some t236) l))) (some t28) (n (n (n (n l (some t284) l) (some t156) l) (some t92) (n l (some t220) l)) (some t60) (n (n (n l (some t316) l) (some t188) l) (some t124) (n
  l (some t252) l)))))) (some t2) (n (n (n (n (n (n (n l (some t258) l) (some t130) l) (some t66) (n (n l (some t322) l) (some t194) l)) (some t34) (n (n (n l (some t290) l) (some
  t162) l) (some t98) (n l (some t226) l))) (some t18) (n (n (n (n l (some t274) l) (some t146) l) (some t82) (n l (some t210) l)) (some t50) (n (n (n l (some t306) l) (some t178) l)
  (some t114) (n l (some t242) l)))) (some t10) (n (n (n (n (n l (some t266) l) (some t138) l) (some t74) (n l (some t202) l)) (some t42) (n (n (n l (some t298) l) (some t170) l)
  (some t106) (n l (some t234) l))) (some t26) (n (n (n (n l (some t282) l) (some t154) l) (some t90) (n l (some t218) l)) (some t58) (n (n (n l (some t314) l) (some t186) l) (some
  t122) (n l (some t250) l))))) (some t6) (n (n (n (n (n (n l (some t262) l) (some t134) l) (some t70) (n l (some t198) l)) (some t38) (n (n (n l (some t294) l) (some t166) l) (some
  t102) (n l (some t230) l))) (some t22) (n (n (n (n l (some t278) l) (some t150) l) (some t86) (n l (some t214) l)) (some t54) (n (n (n l (some t310) l) (some t182) l) (some t118) (n
  l (some t246) l)))) (some t14) (n (n (n (n (n l (some t270) l) (some t142) l) (some t78) (n l (some t206) l)) (some t46) (n (n (n l (some t302) l) (some t174) l) (some t110) (n l
  (some t238) l))) (some t30) (n (n (n (n l (some t286) l) (some t158) l) (some t94) (n l (some t222) l)) (some t62) (n (n (n l (some t318) l) (some t190) l) (some t126) (n l (some
  t254) l))))))))
noncomputable def fns : Tr Func :=
  (n (n (n (n (n (n (n (n (n l (some f255) l) (some f127) l) (some f63) (n l (some f191) l)) (some f31) (n (n l (some f159) l) (some f95) (n l (some f223) l))) (some f15) (n (n (n (n
  l (some f271) l) (some f143) l) (some f79) (n l (some f207) l)) (some f47) (n (n l (some f175) l) (some f111) (n l (some f239) l)))) (some f7) (n (n (n (n (n l (some f263) l) (some
  f135) l) (some f71) (n l (some f199) l)) (some f39) (n (n l (some f167) l) (some f103) (n l (some f231) l))) (some f23) (n (n (n (n l (some f279) l) (some f151) l) (some f87) (n l
  (some f215) l)) (some f55) (n (n l (some f183) l) (some f119) (n l (some f247) l))))) (some f3) (n (n (n (n (n (n l (some f259) l) (some f131) l) (some f67) (n l (some f195) l))
  (some f35) (n (n l (some f163) l) (some f99) (n l (some f227) l))) (some f19) (n (n (n (n l (some f275) l) (some f147) l) (some f83) (n l (some f211) l)) (some f51) (n (n l (some
  f179) l) (some f115) (n l (some f243) l)))) (some f11) (n (n (n (n (n l (some f267) l) (some f139) l) (some f75) (n l (some f203) l)) (some f43) (n (n l (some f171) l) (some f107)
  (n l (some f235) l))) (some f27) (n (n (n l (some f155) l) (some f91) (n l (some f219) l)) (some f59) (n (n l (some f187) l) (some f123) (n l (some f251) l)))))) (some f1) (n (n (n
  (n (n (n (n l (some f257) l) (some f129) l) (some f65) (n l (some f193) l)) (some f33) (n (n l (some f161) l) (some f97) (n l (some f225) l))) (some f17) (n (n (n (n l (some f273)
  l) (some f145) l) (some f81) (n l (some f209) l)) (some f49) (n (n l (some f177) l) (some f113) (n l (some f241) l)))) (some f9) (n (n (n (n (n l (some f265) l) (some f137) l) (some
  f73) (n l (some f201) l)) (some f41) (n (n l (some f169) l) (some f105) (n l (some f233) l))) (some f25) (n (n (n (n l (some f281) l) (some f153) l) (some f89) (n l (some f217) l))
  (some f57) (n (n l (some f185) l) (some f121) (n l (some f249) l))))) (some f5) (n (n (n (n (n (n l (some f261) l) (some f133) l) (some f69) (n l (some f197) l)) (some f37) (n (n l
  (some f165) l) (some f101) (n l (some f229) l))) (some f21) (n (n (n (n l (some f277) l) (some f149) l) (some f85) (n l (some f213) l)) (some f53) (n (n l (some f181) l) (some f117)
  (n l (some f245) l)))) (some f13) (n (n (n (n (n l (some f269) l) (some f141) l) (some f77) (n l (some f205) l)) (some f45) (n (n l (some f173) l) (some f109) (n l (some f237) l)))
  (some f29) (n (n (n l (some f157) l) (some f93) (n l (some f221) l)) (some f61) (n (n l (some f189) l) (some f125) (n l (some f253) l))))))) (some f0) (n (n (n (n (n (n (n (n l
  (some f256) l) (some f128) l) (some f64) (n l (some f192) l)) (some f32) (n (n l (some f160) l) (some f96) (n l (some f224) l))) (some f16) (n (n (n (n l (some f272) l) (some f144)
  l) (some f80) (n l (some f208) l)) (some f48) (n (n l (some f176) l) (some f112) (n l (some f240) l)))) (some f8) (n (n (n (n (n l (some f264) l) (some f136) l) (some f72) (n l
  (some f200) l)) (some f40) (n (n l (some f168) l) (some f104) (n l (some f232) l))) (some f24) (n (n (n (n l (some f280) l) (some f152) l) (some f88) (n l (some f216) l)) (some f56)
  (n (n l (some f184) l) (some f120) (n l (some f248) l))))) (some f4) (n (n (n (n (n (n l (some f260) l) (some f132) l) (some f68) (n l (some f196) l)) (some f36) (n (n l (some f164)
  l) (some f100) (n l (some f228) l))) (some f20) (n (n (n (n l (some f276) l) (some f148) l) (some f84) (n l (some f212) l)) (some f52) (n (n l (some f180) l) (some f116) (n l (some
  f244) l)))) (some f12) (n (n (n (n (n l (some f268) l) (some f140) l) (some f76) (n l (some f204) l)) (some f44) (n (n l (some f172) l) (some f108) (n l (some f236) l))) (some f28)
  (n (n (n l (some f156) l) (some f92) (n l (some f220) l)) (some f60) (n (n l (some f188) l) (some f124) (n l (some f252) l)))))) (some f2) (n (n (n (n (n (n (n l (some f258) l)
  (some f130) l) (some f66) (n l (some f194) l)) (some f34) (n (n l (some f162) l) (some f98) (n l (some f226) l))) (some f18) (n (n (n (n l (some f274) l) (some f146) l) (some f82)
  (n l (some f210) l)) (some f50) (n (n l (some f178) l) (some f114) (n l (some f242) l)))) (some f10) (n (n (n (n (n l (some f266) l) (some f138) l) (some f74) (n l (some f202) l))
  (some f42) (n (n l (some f170) l) (some f106) (n l (some f234) l))) (some f26) (n (n (n l (some f154) l) (some f90) (n l (some f218) l)) (some f58) (n (n l (some f186) l) (some
  f122) (n l (some f250) l))))) (some f6) (n (n (n (n (n (n l (some f262) l) (some f134) l) (some f70) (n l (some f198) l)) (some f38) (n (n l (some f166) l) (some f102) (n l (some
  f230) l))) (some f22) (n (n (n (n l (some f278) l) (some f150) l) (some f86) (n l (some f214) l)) (some f54) (n (n l (some f182) l) (some f118) (n l (some f246) l)))) (some f14) (n
  (n (n (n (n l (some f270) l) (some f142) l) (some f78) (n l (some f206) l)) (some f46) (n (n l (some f174) l) (some f110) (n l (some f238) l))) (some f30) (n (n (n l (some f158) l)
  (some f94) (n l (some f222) l)) (some f62) (n (n l (some f190) l) (some f126) (n l (some f254) l))))))))
noncomputable def eqs : List Nat := [30]
noncomputable def gls : List Nat := [0, 3]
noncomputable def lies : List (Nat × Nat × Nat) := []
theorem tys_eq : tys = Tr.ofList prog.types.toList := by rfl
theorem fns_eq : fns = Tr.ofList prog.funcs.toList := by rfl
end Go.Vm.Tryz
