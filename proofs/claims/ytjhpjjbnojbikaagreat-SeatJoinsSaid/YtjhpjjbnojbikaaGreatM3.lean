/- Definitions and lemmas of the proof, without a condition of their own. -/
import Derived.Test.YtjhpjjbnojbikaaGreatM2
import Derived.Test.YtjhpjjbnojbikaaGreatProg
import Derived.KernelRfl
import Derived.Lib.AppendZeros
set_option linter.unusedSimpArgs false
set_option linter.unusedVariables false
open List renaming append_assoc→akt,cons_append→aks,eq_nil_of_length_eq_zero→akG,length_append→akk,length_cons→akl,length_drop→akJ,length_map→akm,length_nil→akn,length_take→akA,map_cons→akr,mem_append→akz,mem_of_getElem?→akp,nil_append→aku
open Nat renaming le_refl→akB
open Option.some renaming inj→akH,injEq→akE
namespace Go.Proofs.Tryz
open Go Go.RowKit Go.Eng Go.Sy
set_option maxRecDepth 100000
def e_ (i d:Nat) (x:XO):XSt:=.e i (some d) none x
def c_ (i d f:Nat) (xs:List XP):XSt:=.c i (some d) none f xs
def a_ (i d:Nat) (x:XO):XSt:=.a i d none x
def m_ (n:Nat):XO:=.mv (.t n)
def n_ (n:Nat):XO:=.nck (.t n)
def o_ (n:Nat):AV:=.int 0 (.ofNat n)
def h_ (n:Nat) (l:List XSt):XC:=.reg true n (.leaf l)
def aw (f:Nat) (x:XF):Prop:=aK Tryz.prog f x=true∧plain (dM x)=true
noncomputable def tk12':NV (aA [] [] [] 0x5281e1c6ad1b18ebf62b76807745ad4f746459a5920542200b90d69014caf3e7f):=⟨_,by conv=>rhs;reduce⟩
noncomputable abbrev acM:XF:=tk12'.1
theorem acL:aw 12 acM:=⟨by kernel_rfl,by kernel_rfl⟩
noncomputable def tk13':NV (aA [] [] [] 0x10798b8c9442281fff1f75cbb7b9e2839c1fc6b960deac6ba907f6145b7df73f274d9e):=⟨_,by conv=>rhs;reduce⟩
noncomputable abbrev acK:XF:=tk13'.1
theorem acJ:aw 13 acK:=⟨by kernel_rfl,by kernel_rfl⟩
noncomputable def tk14':NV (aA [] [] [] 0x5007156fb740d27c0b915a4):=⟨_,by conv=>rhs;reduce⟩
noncomputable abbrev acI:XF:=tk14'.1
theorem acH:aw 14 acI:=⟨by kernel_rfl,by kernel_rfl⟩
noncomputable def tk16':NV (aA [] [] [] 0x55be7c695784fb20de07150fabb426bcbf7b8cf923f69f7e2a530):=⟨_,by conv=>rhs;reduce⟩
noncomputable abbrev acG:XF:=tk16'.1
theorem acF:aw 16 acG:=⟨by kernel_rfl,by kernel_rfl⟩
noncomputable def tk19':NV (aA [] [] [] 0x7595d620173f2d208c0765ae84f241fae6a9a57):=⟨_,by conv=>rhs;reduce⟩
noncomputable abbrev acE:XF:=tk19'.1
theorem acD:aw 19 acE:=⟨by kernel_rfl,by kernel_rfl⟩
noncomputable def tk21':NV (aA [] [] [] 0x41309e3430286875ee6fb1250376343f):=⟨_,by conv=>rhs;reduce⟩
noncomputable abbrev acC:XF:=tk21'.1
theorem acB:aw 21 acC:=⟨by kernel_rfl,by kernel_rfl⟩
noncomputable def tk22':NV (aA [] [] [] 0x64f5ff6817ff6bcab1ad72f7a5ce903c49ca245cf9afea937de1a781fca29f1e9266122fceea13eeb99):=⟨_,by conv=>rhs;reduce⟩
noncomputable abbrev acA:XF:=tk22'.1
theorem acz:aw 22 acA:=⟨by kernel_rfl,by kernel_rfl⟩
noncomputable def tk23':NV (aA [] [] [] 0x21b1b75ff3f0cb2d3bd0b772778b3ffb2542dcb5aac1c588763c0547938f0776a3a01a2fe67e84e230428966e62a8fc20de7b6f5c11a513fec9f0dd0ddc04ca868d837b3ea5a7ed5d3137242f577):=⟨_,by conv=>rhs;reduce⟩
noncomputable abbrev acy:XF:=tk23'.1
theorem acx:aw 23 acy:=⟨by kernel_rfl,by kernel_rfl⟩
noncomputable def tk24':NV (aA [] [] [] 0x4e1e9c26b4bc2fffd18acd460ac05e2c537b5bc64f392b41cdb3c4bf2c27584f8ad4b12454bf0):=⟨_,by conv=>rhs;reduce⟩
noncomputable abbrev acw:XF:=tk24'.1
theorem acv:aw 24 acw:=⟨by kernel_rfl,by kernel_rfl⟩
noncomputable def tk25':NV (aA [] [] [] 0x687267adbc3c5e34a6122756a4bf0f2ac2436ba97b8d2c7477c2d87eef0d535):=⟨_,by conv=>rhs;reduce⟩
noncomputable abbrev acu:XF:=tk25'.1
theorem acs:aw 25 acu:=⟨by kernel_rfl,by kernel_rfl⟩
noncomputable def tk26':NV (aA [] [] [] 0x5b5035d9c086):=⟨_,by conv=>rhs;reduce⟩
noncomputable abbrev acr:XF:=tk26'.1
theorem acq:aw 26 acr:=⟨by kernel_rfl,by kernel_rfl⟩
noncomputable def tk30':NV (aA [] [] [] 0x266dfa4d9bd95e134a89e5c7a6e708abbf848139cdbac9a6733654b2e6a8b8c4aa8830381553):=⟨_,by conv=>rhs;reduce⟩
noncomputable abbrev acp:XF:=tk30'.1
theorem aco:aw 30 acp:=⟨by kernel_rfl,by kernel_rfl⟩
noncomputable def tk32':NV (aA [] [] [] 0x1c6d8be9a403605fae43a39a25bfd7ad8f3):=⟨_,by conv=>rhs;reduce⟩
noncomputable abbrev acn:XF:=tk32'.1
theorem acm:aw 32 acn:=⟨by kernel_rfl,by kernel_rfl⟩
noncomputable def tk33':NV (aA [] [] [] 0x3d7d6eb7c6fb015c9fdd98279df11a6):=⟨_,by conv=>rhs;reduce⟩
noncomputable abbrev acl:XF:=tk33'.1
theorem ack:aw 33 acl:=⟨by kernel_rfl,by kernel_rfl⟩
noncomputable def tk34':NV (aA [] [] [] 0x127ca11c1ad1e57b0b7d9fd5cdb03cec5cb):=⟨_,by conv=>rhs;reduce⟩
noncomputable abbrev acj:XF:=tk34'.1
theorem aci:aw 34 acj:=⟨by kernel_rfl,by kernel_rfl⟩
noncomputable def tk36':NV (aA [] [] [] 0x28332bc6d14e1ab21f7d51340415be41281ef8c1b33eada187a32563d525dc00f57a6463845b900fb6eba1ac3273964833a9614edd5b21742bd8a493ca51cb45d956f80e4339d6ecafa5fee421061831):=⟨_,by conv=>rhs;reduce⟩
noncomputable abbrev ach:XF:=tk36'.1
theorem acg:aw 36 ach:=⟨by kernel_rfl,by kernel_rfl⟩
noncomputable def tk38':NV (aA [] [] [] 0xd45541c384e2ee5cb0d05542b62be9a8f069ae994e2dd):=⟨_,by conv=>rhs;reduce⟩
noncomputable abbrev acf:XF:=tk38'.1
theorem ace:aw 38 acf:=⟨by kernel_rfl,by kernel_rfl⟩
noncomputable def tk40':NV (aA [] [] [] 0xe9dce65a51220647f626124c5f0619e289f871be49e4ec74cdbd1255492a4536a9ded1df7660bd1af8b42d06a):=⟨_,by conv=>rhs;reduce⟩
noncomputable abbrev acd:XF:=tk40'.1
theorem acb:aw 40 acd:=⟨by kernel_rfl,by kernel_rfl⟩
noncomputable def tk41':NV (aA [] [] [] 0x237399137c53d6e195ccd638aac2b970244aa20219fc2785236e6f2fb8b4d8ab):=⟨_,by conv=>rhs;reduce⟩
noncomputable abbrev aca:XF:=tk41'.1
theorem ab9:aw 41 aca:=⟨by kernel_rfl,by kernel_rfl⟩
noncomputable def tk42':NV (aA [] [] [] 0x1abbb7b70c06972dc27478829d51669bff):=⟨_,by conv=>rhs;reduce⟩
noncomputable abbrev ab8:XF:=tk42'.1
theorem ab7:aw 42 ab8:=⟨by kernel_rfl,by kernel_rfl⟩
noncomputable def tk43':NV (aA [] [] [] 0x31eb3cab4fbc963e2e7d749ba1d6a4616ba5a5c78d73c372fe50f7db10f82dffe4bebe80573a70b90b7191b01ba3):=⟨_,by conv=>rhs;reduce⟩
noncomputable abbrev ab6:XF:=tk43'.1
theorem ab5:aw 43 ab6:=⟨by kernel_rfl,by kernel_rfl⟩
noncomputable def tk44':NV (aA [] [] [] 0x35ef1351e5a018cd5b35f40ca706e20a7d8cccbfb00):=⟨_,by conv=>rhs;reduce⟩
noncomputable abbrev ab4:XF:=tk44'.1
theorem ab3:aw 44 ab4:=⟨by kernel_rfl,by kernel_rfl⟩
noncomputable def tk45':NV (aA [] [] [] 0xc6a760d75aec908752f08fca3e45b1f258):=⟨_,by conv=>rhs;reduce⟩
noncomputable abbrev ab2:XF:=tk45'.1
theorem ab1:aw 45 ab2:=⟨by kernel_rfl,by kernel_rfl⟩
noncomputable def tk46':NV (aA [] [] [] 0xc0a103c92a4e6934d5c14248d293952c2faf7f9776ae2f65ecb390b595c2acaab3cac835ad059343f742a51d967adeafb041acd3c3aedb4c7db9b3ba27016d8abf29daad5d5940187d6b2a1be7b1f6ee51186462fc296c0863f1d52886eb088b203c9c60bd4ad8752209a547d6788e08ba27daf033c90ff2b141ffbe0bb95b2a162f677de7610b53e9bc01dcbfd3f0f112f57c396408dff133080e8e92bbf642bf11468faaf1a1e612b2d1d3bb8fded33a7e9000ed7dffe179bc074008fa4cf9de95b28bf2a3a767f7d1f7343ecc):=⟨_,by conv=>rhs;reduce⟩
noncomputable abbrev ab0:XF:=tk46'.1
theorem abZ:aw 46 ab0:=⟨by kernel_rfl,by kernel_rfl⟩
noncomputable def tk47':NV (aA [] [] [] 0xa496e61be01f4236832e00adaacf72c8298f89e4c9f0240a65ee51ce17449ab47e79b97de7acd1ca02ecfc86a77fb830225e776b2fed92d5c203bb18169af582e03e2d640fc9fff849b23113655a4cfdd8597c8bbea1a017228e836e2b162fdb9):=⟨_,by conv=>rhs;reduce⟩
noncomputable abbrev abY:XF:=tk47'.1
theorem abX:aw 47 abY:=⟨by kernel_rfl,by kernel_rfl⟩
noncomputable def tk48':NV (aA [] [] [] 0xb6f4460f7216b79c9adda6aa88db4f206805bd4b681):=⟨_,by conv=>rhs;reduce⟩
noncomputable abbrev abW:XF:=tk48'.1
theorem abV:aw 48 abW:=⟨by kernel_rfl,by kernel_rfl⟩
noncomputable def tk52':NV (aA [] [] [] 0x2efb6252021756f7754bdf5b4d69aa6dd02e553291f308ab80ef5fcdc2572de70c6bd2859cd7a4ee863075377564d1f2e02a74381b56ee0969c4c):=⟨_,by conv=>rhs;reduce⟩
noncomputable abbrev abU:XF:=tk52'.1
theorem abT:aw 52 abU:=⟨by kernel_rfl,by kernel_rfl⟩
noncomputable def tk53':NV (aA [] [] [] 0x115d75ae2b07d4e839473563397bf67b7):=⟨_,by conv=>rhs;reduce⟩
noncomputable abbrev abS:XF:=tk53'.1
theorem abR:aw 53 abS:=⟨by kernel_rfl,by kernel_rfl⟩
noncomputable def tk54':NV (aA [] [] [] 0x26601bd5968c74711fc78d6a8ae319db777827c98d604464c35bd185f855d67f81605fc56c8bd9744b8b445f87c2ba1b7f06309c5101c0821788da144006676c5f12e5882fe9ea):=⟨_,by conv=>rhs;reduce⟩
noncomputable abbrev abQ:XF:=tk54'.1
theorem abP:aw 54 abQ:=⟨by kernel_rfl,by kernel_rfl⟩
noncomputable def tk55':NV (aA [] [] [] 0x14fbe645c05c4181257):=⟨_,by conv=>rhs;reduce⟩
noncomputable abbrev abO:XF:=tk55'.1
theorem abN:aw 55 abO:=⟨by kernel_rfl,by kernel_rfl⟩
noncomputable def tk56':NV (aA [] [] [] 0xdfb37dedd9091f03ea1f5fed4032863a959e8512def1277b3898963d325e4698da27fb5b9c710160552b3e6b0b2183160dfe3a082758cd025f153dcbf436):=⟨_,by conv=>rhs;reduce⟩
noncomputable abbrev abM:XF:=tk56'.1
theorem abL:aw 56 abM:=⟨by kernel_rfl,by kernel_rfl⟩
noncomputable def tk57':NV (aA [] [] [] 0x811f40a6330ef4339e5c6be0561be2):=⟨_,by conv=>rhs;reduce⟩
noncomputable abbrev abK:XF:=tk57'.1
theorem abJ:aw 57 abK:=⟨by kernel_rfl,by kernel_rfl⟩
noncomputable def tk58':NV (aA [] [] [] 0x55e313b4e85e7237ea7437e7b249d3bf50b3283040d6a27dc6b4221c6675968ff5699308cd1f1ed9b8225b32db3da2da73a5acd396beb72f71d3a8c31728e48bacb15f5b28ef3c7bf5514a1a4fc3fede26485fdd09c82a4198200e5c81500f5258acf55db5c86e09abf37f0d71a3376):=⟨_,by conv=>rhs;reduce⟩
noncomputable abbrev abI:XF:=tk58'.1
theorem abH:aw 58 abI:=⟨by kernel_rfl,by kernel_rfl⟩
noncomputable def tk59':NV (aA [] [] [] 0x38aebd103e1b62bb1a5a5d52f58417ae9d0e3d247e3460810cd7847f28bd81624327a6f72f8bebbeb05be7413bb67b):=⟨_,by conv=>rhs;reduce⟩
noncomputable abbrev abG:XF:=tk59'.1
theorem abF:aw 59 abG:=⟨by kernel_rfl,by kernel_rfl⟩
noncomputable def tk60':NV (aA [] [] [] 0x334fb1e3cbae890c082db080bbf9becf9a6adebaf6260fb89ef69866e8453ba22e86fac0586551699d2e9125fc72c75c1ec6442a404935d1af4caafcd0cbf719d05a4030832181a480c9d33e831b909c0762fcbb594a8ae61bab94044e98e9fa9008a75e37d0e45ee929a0bfb860a27ba206919a9c726289103f3f7475b611814d1df9eac5e0f695b08544f2be336559f728b99f7242df60a7b6c5c8d280262d2e8e26f70dacac87bc7fb0fe6569b4ad604bc70e460a3e111a12290270790ae9405143c825458da52f6cd7a666755716b242806f50091b1486dbfc1badfc1e4f4a1004b49c71dc11646d8057ed8b6fbdf8b15aa0135b1c42955fdc26488d33fa731747506095fffdacdcbd039691d32dcb74fee9c4794):=⟨_,by conv=>rhs;reduce⟩
noncomputable abbrev abE:XF:=tk60'.1
theorem abD:aw 60 abE:=⟨by kernel_rfl,by kernel_rfl⟩
noncomputable def tk61':NV (aA [] [] [] 0x2173a60f0adc7208df462260c48):=⟨_,by conv=>rhs;reduce⟩
noncomputable abbrev abC:XF:=tk61'.1
theorem abB:aw 61 abC:=⟨by kernel_rfl,by kernel_rfl⟩
noncomputable def tk62':NV (aA [] [] [] 0x72a55f7131227e4aba373367db8e05a4):=⟨_,by conv=>rhs;reduce⟩
noncomputable abbrev abA:XF:=tk62'.1
theorem abz:aw 62 abA:=⟨by kernel_rfl,by kernel_rfl⟩
noncomputable def tk63':NV (aA [] [] [] 0x59b1cbdadccc77168362560ad6522d30):=⟨_,by conv=>rhs;reduce⟩
noncomputable abbrev aby:XF:=tk63'.1
theorem abx:aw 63 aby:=⟨by kernel_rfl,by kernel_rfl⟩
noncomputable def tk64':NV (aA [] [] [] 0x2e07059e2ff3ba941a15e5e0be961d7):=⟨_,by conv=>rhs;reduce⟩
noncomputable abbrev abw:XF:=tk64'.1
theorem abv:aw 64 abw:=⟨by kernel_rfl,by kernel_rfl⟩
noncomputable def tk65':NV (aA [] [] [] 0x68e911020bc51dbabf8103ca9b51fc95e60f36db0fde99bcfe358a1e0754):=⟨_,by conv=>rhs;reduce⟩
noncomputable abbrev abu:XF:=tk65'.1
theorem abt:aw 65 abu:=⟨by kernel_rfl,by kernel_rfl⟩
noncomputable def tk66':NV (aA [] [] [] 0x2f31ba5ae0869a2c14686e69b723066891a0a91bf0e2291665bea2a2f4d5e50d222e12d04cc059447f51350dc6e33fc049c6a3a428e646d5c3d7a285d4e15cde08463a58dee806a566ea1b2f70e65b0e460554733a6c1cd834879e983bb61ff23bea18a04c3af06eb135a02261b0b0863b5f21c40eb54439f6ca2c256df3754fff4a1745f8287abead1433aea48005e9cd548282482d971ae371f023c92a50b536eab45142121ed11105b538af6ff6e403790e304ddcb94c0bb65d68c2144e3581913e9ea0a4199698b1b79596f3df60c9d14f4bafc6a8abee4062f8bf0ca1f9ba26b25a58c6859e893ba5484c9effc6388c8336b62da400):=⟨_,by conv=>rhs;reduce⟩
noncomputable abbrev abr:XF:=tk66'.1
theorem abq:aw 66 abr:=⟨by kernel_rfl,by kernel_rfl⟩
noncomputable def tk67':NV (aA [] [] [] 0x36c711bc6154d85b138d2214f8bac9e1b526bd2d21330e7886adc1981c3931bdae3eac8263b65728f9781b5addf):=⟨_,by conv=>rhs;reduce⟩
noncomputable abbrev abp:XF:=tk67'.1
theorem abo:aw 67 abp:=⟨by kernel_rfl,by kernel_rfl⟩
noncomputable def tk68':NV (aA [] [] [] 0xff08aec9f174197a0a979705830c264c800ae864eb165fc1eb664378fe78d3a72e598ca2baffe460715193d908e4024843a69a6e1ca6d51290524ea61447462164ccef5ddbef20278e01cc80280608c2e7a7b96fcc4be8d3eed5b49251da9baf9340b93eb4aed1):=⟨_,by conv=>rhs;reduce⟩
noncomputable abbrev abn:XF:=tk68'.1
theorem abm:aw 68 abn:=⟨by kernel_rfl,by kernel_rfl⟩
noncomputable def tk69':NV (aA [] [] [] 0x22134b92dae716222a5e4e9aefe31bdff693c4d9a94e29c9f4c5f11dc0955f5ed1454482f5652805c73c49a42bc1d0f61316f2e662220ab3dedb77bd55afbfbce6e3bba02f92c693ca5bd900f):=⟨_,by conv=>rhs;reduce⟩
noncomputable abbrev abl:XF:=tk69'.1
theorem abk:aw 69 abl:=⟨by kernel_rfl,by kernel_rfl⟩
noncomputable def tk79':NV (aA [] [] [] 0x37238542313ddc0a342dbed42b48daa0a8960226c9c11a768f7ad38a1a6472148dd4061901c60bf24e6e8feb281f2ba64e742a73ff28208255e7bdfba775349eb6):=⟨_,by conv=>rhs;reduce⟩
noncomputable abbrev abj:XF:=tk79'.1
theorem abi:aw 79 abj:=⟨by kernel_rfl,by kernel_rfl⟩
noncomputable def tk80':NV (aA [] [] [] 0x9df5bf53f1db466da2c061b133344daa766aa6757d03bdd1db6078150671677072e318fbbf083af30d82b61baf660728f8c199278d888323f3026005501d8c4723ec5c0266d141bae2c2b7956c4f4c19243d28a0b6df4d2128aaf9bf2fe788b04d3855):=⟨_,by conv=>rhs;reduce⟩
noncomputable abbrev abh:XF:=tk80'.1
theorem abg:aw 80 abh:=⟨by kernel_rfl,by kernel_rfl⟩
noncomputable def tk81':NV (aA [] [] [] 0x7ac778cfe8b7b321aa341f5ea0a76df130a):=⟨_,by conv=>rhs;reduce⟩
noncomputable abbrev abf:XF:=tk81'.1
theorem abe:aw 81 abf:=⟨by kernel_rfl,by kernel_rfl⟩
noncomputable def tk85':NV (aA [] [] [] 0x1d445dddeef3d8ea043f517eff8493c6d7f5cb84f47e918595108bfb6d0f2a123f3e297f518bd85d0f7ae4af5dab221b22407d5c8a144e2c9b2cd231bf5486f2fa4ddaec93f23b78b518d12447ecc410912193a78ef0499fc71370aac8e64881f29a9ec8e3dcce666d46ee48bca00f530d13274c826504e04a7ee436ef6c9040):=⟨_,by conv=>rhs;reduce⟩
noncomputable abbrev abd:XF:=tk85'.1
theorem abc:aw 85 abd:=⟨by kernel_rfl,by kernel_rfl⟩
noncomputable def tk86':NV (aA [] [] [] 0x930f1269e6c03cef7bf08cc077ca5b12b3787cee90b6cca6db2028390d3fff):=⟨_,by conv=>rhs;reduce⟩
noncomputable abbrev abb:XF:=tk86'.1
theorem aba:aw 86 abb:=⟨by kernel_rfl,by kernel_rfl⟩
noncomputable def tk87':NV (aA [] [] [] 0xfb9679718b0e976d5c5c2a6e258f0e15448d97e4f1e1a55):=⟨_,by conv=>rhs;reduce⟩
noncomputable abbrev aa9:XF:=tk87'.1
theorem aa8:aw 87 aa9:=⟨by kernel_rfl,by kernel_rfl⟩
noncomputable def tk88':NV (aA [] [] [] 0x318e0c90e89e9821a383d624676bf90bfdb935587fd2b78):=⟨_,by conv=>rhs;reduce⟩
noncomputable abbrev aa7:XF:=tk88'.1
theorem aa6:aw 88 aa7:=⟨by kernel_rfl,by kernel_rfl⟩
noncomputable def tk89':NV (aA [] [] [] 0x1f229c76d86543041b8de3dca328caca842):=⟨_,by conv=>rhs;reduce⟩
noncomputable abbrev aa5:XF:=tk89'.1
theorem aa4:aw 89 aa5:=⟨by kernel_rfl,by kernel_rfl⟩
noncomputable def tk90':NV (aA [] [] [] 0x6e097cc6aa8e104f86863d0dde499e3e):=⟨_,by conv=>rhs;reduce⟩
noncomputable abbrev aa3:XF:=tk90'.1
theorem aa2:aw 90 aa3:=⟨by kernel_rfl,by kernel_rfl⟩
noncomputable def tk91':NV (aA [] [] [] 0x73fc3757d6f8cecdb9b1f59fa8c91e6064495f15f913707b7f4):=⟨_,by conv=>rhs;reduce⟩
noncomputable abbrev aaZ:XF:=tk91'.1
theorem aaY:aw 91 aaZ:=⟨by kernel_rfl,by kernel_rfl⟩
noncomputable def tk93':NV (aA [] [] [] 0x1421f4d7e2012b644842f4065e135f58):=⟨_,by conv=>rhs;reduce⟩
noncomputable abbrev aaX:XF:=tk93'.1
theorem aaW:aw 93 aaX:=⟨by kernel_rfl,by kernel_rfl⟩
noncomputable def tk94':NV (aA [] [] [] 0x42cf84131d71ae5d7a66fac0939e6dadd2c9cb0a3ac87436f3b):=⟨_,by conv=>rhs;reduce⟩
noncomputable abbrev aaV:XF:=tk94'.1
theorem aaU:aw 94 aaV:=⟨by kernel_rfl,by kernel_rfl⟩
noncomputable def tk95':NV (aA [] [] [] 0xfe60d12b1fb4bdfb9b56b846ed18e46ec):=⟨_,by conv=>rhs;reduce⟩
noncomputable abbrev aaT:XF:=tk95'.1
theorem aaS:aw 95 aaT:=⟨by kernel_rfl,by kernel_rfl⟩
noncomputable def tk103':NV (aA [] [] [] 0x81f2a7094191d4960d8a8123739751c5935d9596e55f9ae2):=⟨_,by conv=>rhs;reduce⟩
noncomputable abbrev SE:XF:=tk103'.1
theorem UJ:aw 103 SE:=⟨by kernel_rfl,by kernel_rfl⟩
noncomputable def tk106':NV (aA [] [] [] 0x135c88eb74ac058a75e9d1b6e700a133b275bd46a7a247270):=⟨_,by conv=>rhs;reduce⟩
noncomputable abbrev SD:XF:=tk106'.1
theorem UI:aw 106 SD:=⟨by kernel_rfl,by kernel_rfl⟩
noncomputable def tk110':NV (aA [] [] [] 0x601734bdf6ca70f177115d5e0aeb16648):=⟨_,by conv=>rhs;reduce⟩
noncomputable abbrev SC:XF:=tk110'.1
theorem UH:aw 110 SC:=⟨by kernel_rfl,by kernel_rfl⟩
noncomputable def tk111':NV (aA [] [] [] 0x99be7613fe0220436dd336cc58428f9):=⟨_,by conv=>rhs;reduce⟩
noncomputable abbrev SA:XF:=tk111'.1
theorem UG:aw 111 SA:=⟨by kernel_rfl,by kernel_rfl⟩
noncomputable def tk112':NV (aA [] [] [] 0xed8587b48923d75af3e04fd61db6243c3ccf8847cef6301e7a134a5a2ca1fc5e3fc791b0de999e1d587eff0f6dda74):=⟨_,by conv=>rhs;reduce⟩
noncomputable abbrev Sx:XF:=tk112'.1
theorem UF:aw 112 Sx:=⟨by kernel_rfl,by kernel_rfl⟩
noncomputable def tk113':NV (aA [] [] [] 0x6b442f78bb5e79288699ad3f47bc):=⟨_,by conv=>rhs;reduce⟩
noncomputable abbrev Sw:XF:=tk113'.1
theorem UE:aw 113 Sw:=⟨by kernel_rfl,by kernel_rfl⟩
noncomputable def tk117':NV (aA [] [] [] 0x20d4ee4a6fb91847fa7919f976257bb5b8ffb4b0c7e7067f8acd2211a7efcae04392c1e97bc2):=⟨_,by conv=>rhs;reduce⟩
noncomputable abbrev Sv:XF:=tk117'.1
theorem UD:aw 117 Sv:=⟨by kernel_rfl,by kernel_rfl⟩
noncomputable def tk120':NV (aA [] [] [] 0xa76c8fd267c3402ab0fb87814cda0a2447b552fbd0e3740aa7ab8e0ae6bde6b4cd13cc08819b549d21ffa8a2e02c556595e6d3d7db8b7f7ed257b56352eb98d32cebb099c28f3501b66866a61a5e7ae066f216dd8b0df85e23bf57e7c3721ba0076ba744744890e7b50fe5e53ae38970b545b808d8ba98c40de62a6bf4df85983b7c818536bede34566fb0e9cfe03b299e1687fb891263ac76aea319d4947705c658632eab37f41ecb263012058b589861729044bf24b7d3e7df5be1dc87ec6df979203cfbcfb49a8e2c3c6a1af5cc598ccfc32cf63bfd6e93da4b79f408d02f1f2e6bd571a88779b35d894e46712c5912d7c6ceb238ed9fc5ca7b458d61dddb52a286eed1dfc982286db):=⟨_,by conv=>rhs;reduce⟩
noncomputable abbrev Su:XF:=tk120'.1
theorem UC:aw 120 Su:=⟨by kernel_rfl,by kernel_rfl⟩
noncomputable def tk121':NV (aA [] [] [] 0x1d15f273e95efa4cd1fdb3402961a4b1c):=⟨_,by conv=>rhs;reduce⟩
noncomputable abbrev Ss:XF:=tk121'.1
theorem UB:aw 121 Ss:=⟨by kernel_rfl,by kernel_rfl⟩
noncomputable def tk122':NV (aA [] [] [] 0x74fc5c298da75cadb4dd70685d29a1d2):=⟨_,by conv=>rhs;reduce⟩
noncomputable abbrev Sr:XF:=tk122'.1
theorem UA:aw 122 Sr:=⟨by kernel_rfl,by kernel_rfl⟩
noncomputable def tk124':NV (aA [] [] [] 0x55ed4fac91795fbedf1959421a11bfadb63a0b):=⟨_,by conv=>rhs;reduce⟩
noncomputable abbrev Sp:XF:=tk124'.1
theorem Uz:aw 124 Sp:=⟨by kernel_rfl,by kernel_rfl⟩
noncomputable def tk127':NV (aA [] [] [] 0x93c121c6cdeec38093e830717fee7f):=⟨_,by conv=>rhs;reduce⟩
noncomputable abbrev Sm:XF:=tk127'.1
theorem Uy:aw 127 Sm:=⟨by kernel_rfl,by kernel_rfl⟩
noncomputable def tk128':NV (aA [] [] [] 0x12df451b774a7e11cfff322b987c846e0595ab485d8ef9b0ccbad20f):=⟨_,by conv=>rhs;reduce⟩
noncomputable abbrev Sl:XF:=tk128'.1
theorem Ux:aw 128 Sl:=⟨by kernel_rfl,by kernel_rfl⟩
noncomputable def tk129':NV (aA [] [] [] 0x4587382aac3aa936c62928070073211):=⟨_,by conv=>rhs;reduce⟩
noncomputable abbrev Sk:XF:=tk129'.1
theorem Uw:aw 129 Sk:=⟨by kernel_rfl,by kernel_rfl⟩
noncomputable def tk130':NV (aA [] [] [] 0x1f648d748ef8121a354f84720):=⟨_,by conv=>rhs;reduce⟩
noncomputable abbrev Sj:XF:=tk130'.1
theorem Uv:aw 130 Sj:=⟨by kernel_rfl,by kernel_rfl⟩
noncomputable def tk136':NV (aA [] [] [] 0x8601a5a64bffe282075de4a9570c32f305774ef3a9c2afaef4b1813f525f70789288862b314b4bb98b37045ced4230935f166fa2df722ede163e6a88252a8b8d0a09a5403a24347226eef26ec1f522aa0c8953858fe23f5e12319d1a85aeb875c725eacb03e6b8a1f6881b9ee7b6f91f125a6126b546750bc380d3c78da4b0c14a6af961f4a8494349a1661ec12fd40d06b1f65b9591064f2818683f2ac431f9f55985d6210ba9a1518da5c118a124af6f0d6d3a07c523c9c288350b1b147fd52c7092ecad9d5d4e4980bf3f317ced67332300379a584922cf6e4af334ab4111a4f4d7edf5c8460510fb71707bbf779be57a70f026ec2bf5c0af703269aad795b4c947d2cc1582eefdcb7693190733b1a54a8e22fb9f0aa6b568c34f21974cb7359cc287ab5481ad05c9e4bed722fa258b8d5cba55c6635259cf51d8b61c5f9cb8a4f84781ac327ef63695fc412b81f78):=⟨_,by conv=>rhs;reduce⟩
noncomputable abbrev Sf:XF:=tk136'.1
theorem Uu:aw 136 Sf:=⟨by kernel_rfl,by kernel_rfl⟩
noncomputable def tk137':NV (aA [] [] [] 0x1045d8d3e34221a8de7ff339bddfaf846096c3f26cdd9c76ec5c80f06d7de111edbaefe3528136652fb66c8495958cdc5771f6be4673c08cc63570cb1fa3ca1b22534b93fcd0cc022756f4ed926030df58ec962c35fdfcc221b5bd419f308f771734f078e9ffc30c0e56566303bc60d55367e07ae39be5fe67aa70d95bbe52cb154d03f12f0af611f176e5d41992fec4167fed7980957daa2c24c29b83b86c640849228ded80d721b9bff2b3f225f8ffbb286a0163c673bb7568e49ef2329cfe1c0dd2f705fb229663c454cc8e0c777575bb5c5e7fb8253ca1eaa8a48a645dd60f4e4):=⟨_,by conv=>rhs;reduce⟩
noncomputable abbrev Se:XF:=tk137'.1
theorem Ut:aw 137 Se:=⟨by kernel_rfl,by kernel_rfl⟩
noncomputable def tk138':NV (aA [] [] [] 0x1ffa5b57133416000e00476aa9110593a7bbe01966d1d39bd4be4b9110f4a2fe79495abcb98fcc48b684675ad9c03859018bd0afe52f508f91a818cbb00d7fa5eb1325c9b992fc76bf0062963bc5200552b90d210bea6624770f40a60891a82930b5a1ba838dad85a5b98a9fe7b6c93051b4c370594ab7f5ea5155c93103c419e809e7ebf45b472696b78cbf31a6d3365a6528134ebde339c0f6e176db7635e511f2eedbfae43d38e0ef897cda98862ea877298a2a2be9bb8936b822182b05d99924ad6962c5e771b661d50cd4b29277bd4980b739ce988aed5000124a411484c87dbb681a380828b6dcfd8c2ad6932b83516026a01c4dee80a3f21f40bc83e7a2a4eca72c95194fe26fe76d48fb9c684f6c9fd40a68ad172404bc791b5564be50f86b60c11e3f3918a3a0cbeb20b93b32ca59a186b72b918fdbb63380a717645cc0d4cc02ebf05cfbc046c4bef2a8be89d9ba02cfab0c42a07a0997a462e19432dc4df9b1206eec4c39837cc74ca4f694e35715d4fbe767cf707295062ffefaa0747d1599070f39f48a0a1cf75bab5802c78452547e1c93054c5ee0f980d0386c07d4575e6b18bbd2af9d9d9dcb4b6da507ca7ace0418b1):=⟨_,by conv=>rhs;reduce⟩
noncomputable abbrev Sd:XF:=tk138'.1
theorem Us:aw 138 Sd:=⟨by kernel_rfl,by kernel_rfl⟩
noncomputable def tk139':NV (aA [] [] [] 0x3c22adcfec61e1117ac20a2f071ed849e):=⟨_,by conv=>rhs;reduce⟩
noncomputable abbrev Sc:XF:=tk139'.1
theorem Ur:aw 139 Sc:=⟨by kernel_rfl,by kernel_rfl⟩
noncomputable def tk141':NV (aA [] [] [] 0x5f13f671d564d11fbdda8207c2b32e37992):=⟨_,by conv=>rhs;reduce⟩
noncomputable abbrev Sb:XF:=tk141'.1
theorem Uq:aw 141 Sb:=⟨by kernel_rfl,by kernel_rfl⟩
noncomputable def tk145':NV (aA [] [] [] 0x49613815056c6972b873c43e31c3b803211e70d8db5dfeaa3b707eb927ec58119fa733e3f1d0a43df21dc224696f6612dcc2765bf6688186cb6ef22f1469288ab3ed7bc6da0da2197a8824915f6f93950c0c4647f94c3ecc9c57d99b79570739ce5c27847fd56e54288001):=⟨_,by conv=>rhs;reduce⟩
noncomputable abbrev Sa:XF:=tk145'.1
theorem Up:aw 145 Sa:=⟨by kernel_rfl,by kernel_rfl⟩
noncomputable def tk155':NV (aA [] [] [] 0xbb3f491b2d286547f1ac794a3d7f75cce7518091bb4a7ad3f1e1941ffbb59ab89ccceb6d47c2d090c9edc8fc9f8c739522c73004eff62e09cfddf49af2e82380deb843de8594c4bfae42fe5cb562a200da4a0bccf88271331b7809c7dd31d19a5bdbc137aea876df3b7acb46fc8d68f989cd63a3c130756c6eec4f696a7fe71388631f67506962914be853f60517acd539bc41a2a):=⟨_,by conv=>rhs;reduce⟩
noncomputable abbrev RZ:XF:=tk155'.1
theorem Uo:aw 155 RZ:=⟨by kernel_rfl,by kernel_rfl⟩
noncomputable def tk157':NV (aA [] [] [] 0x25211d13ba2db26bd41d7b7d):=⟨_,by conv=>rhs;reduce⟩
noncomputable abbrev RY:XF:=tk157'.1
theorem Un:aw 157 RY:=⟨by kernel_rfl,by kernel_rfl⟩
noncomputable def tk159':NV (aA [] [] [] 0x5304e2adeb024399c64e02d64b016c9):=⟨_,by conv=>rhs;reduce⟩
noncomputable abbrev RX:XF:=tk159'.1
theorem Um:aw 159 RX:=⟨by kernel_rfl,by kernel_rfl⟩
noncomputable def tk163':NV (aA [] [] [] 0x98052f526ca1dd5e3dcc33f65384ceee81d85e6fa695c0f89):=⟨_,by conv=>rhs;reduce⟩
noncomputable abbrev RW:XF:=tk163'.1
theorem Ul:aw 163 RW:=⟨by kernel_rfl,by kernel_rfl⟩
noncomputable def tk164':NV (aA [] [] [] 0x134e11483ddd9ec513116cac7922f4d9):=⟨_,by conv=>rhs;reduce⟩
noncomputable abbrev RU:XF:=tk164'.1
theorem Uk:aw 164 RU:=⟨by kernel_rfl,by kernel_rfl⟩
noncomputable def tk165':NV (aA [] [] [] 0x118561fd2aa897637691e2b869ff7ced4161818d8a00917825217a4c9a744e35b74fa7290d3a86d97faab3f8c13f66d22697382bc937273b11dadc81bdb271a52164):=⟨_,by conv=>rhs;reduce⟩
noncomputable abbrev RT:XF:=tk165'.1
theorem Uj:aw 165 RT:=⟨by kernel_rfl,by kernel_rfl⟩
noncomputable def tk166':NV (aA [] [] [] 0x22617f1f04b17af5ff9ec4afcb409bb10518f7c9a5b76a196ab2e4e):=⟨_,by conv=>rhs;reduce⟩
noncomputable abbrev RR:XF:=tk166'.1
theorem Ui:aw 166 RR:=⟨by kernel_rfl,by kernel_rfl⟩
noncomputable def tk167':NV (aA [] [] [] 0x836024cff3746aead337209c4892d2c8499ed31944e45e76c819c12aa022c8f3ad85632a65):=⟨_,by conv=>rhs;reduce⟩
noncomputable abbrev RQ:XF:=tk167'.1
theorem Uh:aw 167 RQ:=⟨by kernel_rfl,by kernel_rfl⟩
noncomputable def tk175':NV (aA [] [] [] 0x1b36959084a2f168a5):=⟨_,by conv=>rhs;reduce⟩
noncomputable abbrev RP:XF:=tk175'.1
theorem Ug:aw 175 RP:=⟨by kernel_rfl,by kernel_rfl⟩
noncomputable def tk179':NV (aA [] [] [] 0x6b442f78bb5e79288699ad3f47bc):=⟨_,by conv=>rhs;reduce⟩
noncomputable abbrev RO:XF:=tk179'.1
theorem Uf:aw 179 RO:=⟨by kernel_rfl,by kernel_rfl⟩
noncomputable def tk180':NV (aA [] [] [] 0x554f6c5cad7cc44d868f02c2):=⟨_,by conv=>rhs;reduce⟩
noncomputable abbrev RN:XF:=tk180'.1
theorem Ue:aw 180 RN:=⟨by kernel_rfl,by kernel_rfl⟩
noncomputable def tk181':NV (aA [] [] [] 0x22513118b554d06a1cf7cbf69997f5f):=⟨_,by conv=>rhs;reduce⟩
noncomputable abbrev RM:XF:=tk181'.1
theorem Ud:aw 181 RM:=⟨by kernel_rfl,by kernel_rfl⟩
noncomputable def IX (f:Nat):Option XF:=(Bool.rec (Bool.rec (Bool.rec (Bool.rec (Bool.rec (Bool.rec (Bool.rec (Bool.rec none (some RM) (Nat.beq f 181)) (Bool.rec none (some RN) (Nat.beq f 180)) (Nat.blt f 181)) (Bool.rec none (some RO) (Nat.beq f 179)) (Nat.blt f 180)) (Bool.rec (Bool.rec (Bool.rec none (some RP) (Nat.beq f 175)) (Bool.rec none (some RQ) (Nat.beq f 167)) (Nat.blt f 175)) (Bool.rec none (some RR) (Nat.beq f 166)) (Nat.blt f 167)) (Nat.blt f 179)) (Bool.rec (Bool.rec (Bool.rec (Bool.rec none (some RT) (Nat.beq f 165)) (Bool.rec none (some RU) (Nat.beq f 164)) (Nat.blt f 165)) (Bool.rec none (some RW) (Nat.beq f 163)) (Nat.blt f 164)) (Bool.rec (Bool.rec (Bool.rec none (some RX) (Nat.beq f 159)) (Bool.rec none (some RY) (Nat.beq f 157)) (Nat.blt f 159)) (Bool.rec none (some RZ) (Nat.beq f 155)) (Nat.blt f 157)) (Nat.blt f 163)) (Nat.blt f 166)) (Bool.rec (Bool.rec (Bool.rec (Bool.rec (Bool.rec none (some Sa) (Nat.beq f 145)) (Bool.rec none (some Sb) (Nat.beq f 141)) (Nat.blt f 145)) (Bool.rec none (some Sc) (Nat.beq f 139)) (Nat.blt f 141)) (Bool.rec (Bool.rec (Bool.rec none (some Sd) (Nat.beq f 138)) (Bool.rec none (some Se) (Nat.beq f 137)) (Nat.blt f 138)) (Bool.rec none (some Sf) (Nat.beq f 136)) (Nat.blt f 137)) (Nat.blt f 139)) (Bool.rec (Bool.rec (Bool.rec (Bool.rec none (some Sj) (Nat.beq f 130)) (Bool.rec none (some Sk) (Nat.beq f 129)) (Nat.blt f 130)) (Bool.rec none (some Sl) (Nat.beq f 128)) (Nat.blt f 129)) (Bool.rec (Bool.rec none (some Sm) (Nat.beq f 127)) (Bool.rec none (some Sp) (Nat.beq f 124)) (Nat.blt f 127)) (Nat.blt f 128)) (Nat.blt f 136)) (Nat.blt f 155)) (Bool.rec (Bool.rec (Bool.rec (Bool.rec (Bool.rec (Bool.rec none (some Sr) (Nat.beq f 122)) (Bool.rec none (some Ss) (Nat.beq f 121)) (Nat.blt f 122)) (Bool.rec none (some Su) (Nat.beq f 120)) (Nat.blt f 121)) (Bool.rec (Bool.rec (Bool.rec none (some Sv) (Nat.beq f 117)) (Bool.rec none (some Sw) (Nat.beq f 113)) (Nat.blt f 117)) (Bool.rec none (some Sx) (Nat.beq f 112)) (Nat.blt f 113)) (Nat.blt f 120)) (Bool.rec (Bool.rec (Bool.rec (Bool.rec none (some SA) (Nat.beq f 111)) (Bool.rec none (some SC) (Nat.beq f 110)) (Nat.blt f 111)) (Bool.rec none (some SD) (Nat.beq f 106)) (Nat.blt f 110)) (Bool.rec (Bool.rec none (some SE) (Nat.beq f 103)) (Bool.rec none (some aaT) (Nat.beq f 95)) (Nat.blt f 103)) (Nat.blt f 106)) (Nat.blt f 112)) (Bool.rec (Bool.rec (Bool.rec (Bool.rec (Bool.rec none (some aaV) (Nat.beq f 94)) (Bool.rec none (some aaX) (Nat.beq f 93)) (Nat.blt f 94)) (Bool.rec none (some aaZ) (Nat.beq f 91)) (Nat.blt f 93)) (Bool.rec (Bool.rec (Bool.rec none (some aa3) (Nat.beq f 90)) (Bool.rec none (some aa5) (Nat.beq f 89)) (Nat.blt f 90)) (Bool.rec none (some aa7) (Nat.beq f 88)) (Nat.blt f 89)) (Nat.blt f 91)) (Bool.rec (Bool.rec (Bool.rec (Bool.rec none (some aa9) (Nat.beq f 87)) (Bool.rec none (some abb) (Nat.beq f 86)) (Nat.blt f 87)) (Bool.rec none (some abd) (Nat.beq f 85)) (Nat.blt f 86)) (Bool.rec (Bool.rec none (some abf) (Nat.beq f 81)) (Bool.rec none (some abh) (Nat.beq f 80)) (Nat.blt f 81)) (Nat.blt f 85)) (Nat.blt f 88)) (Nat.blt f 95)) (Nat.blt f 124)) (Bool.rec (Bool.rec (Bool.rec (Bool.rec (Bool.rec (Bool.rec (Bool.rec none (some abj) (Nat.beq f 79)) (Bool.rec none (some abl) (Nat.beq f 69)) (Nat.blt f 79)) (Bool.rec none (some abn) (Nat.beq f 68)) (Nat.blt f 69)) (Bool.rec (Bool.rec (Bool.rec none (some abp) (Nat.beq f 67)) (Bool.rec none (some abr) (Nat.beq f 66)) (Nat.blt f 67)) (Bool.rec none (some abu) (Nat.beq f 65)) (Nat.blt f 66)) (Nat.blt f 68)) (Bool.rec (Bool.rec (Bool.rec (Bool.rec none (some abw) (Nat.beq f 64)) (Bool.rec none (some aby) (Nat.beq f 63)) (Nat.blt f 64)) (Bool.rec none (some abA) (Nat.beq f 62)) (Nat.blt f 63)) (Bool.rec (Bool.rec (Bool.rec none (some abC) (Nat.beq f 61)) (Bool.rec none (some abE) (Nat.beq f 60)) (Nat.blt f 61)) (Bool.rec none (some abG) (Nat.beq f 59)) (Nat.blt f 60)) (Nat.blt f 62)) (Nat.blt f 65)) (Bool.rec (Bool.rec (Bool.rec (Bool.rec (Bool.rec none (some abI) (Nat.beq f 58)) (Bool.rec none (some abK) (Nat.beq f 57)) (Nat.blt f 58)) (Bool.rec none (some abM) (Nat.beq f 56)) (Nat.blt f 57)) (Bool.rec (Bool.rec (Bool.rec none (some abO) (Nat.beq f 55)) (Bool.rec none (some abQ) (Nat.beq f 54)) (Nat.blt f 55)) (Bool.rec none (some abS) (Nat.beq f 53)) (Nat.blt f 54)) (Nat.blt f 56)) (Bool.rec (Bool.rec (Bool.rec (Bool.rec none (some abU) (Nat.beq f 52)) (Bool.rec none (some abW) (Nat.beq f 48)) (Nat.blt f 52)) (Bool.rec none (some abY) (Nat.beq f 47)) (Nat.blt f 48)) (Bool.rec (Bool.rec none (some ab0) (Nat.beq f 46)) (Bool.rec none (some ab2) (Nat.beq f 45)) (Nat.blt f 46)) (Nat.blt f 47)) (Nat.blt f 53)) (Nat.blt f 59)) (Bool.rec (Bool.rec (Bool.rec (Bool.rec (Bool.rec (Bool.rec none (some ab4) (Nat.beq f 44)) (Bool.rec none (some ab6) (Nat.beq f 43)) (Nat.blt f 44)) (Bool.rec none (some ab8) (Nat.beq f 42)) (Nat.blt f 43)) (Bool.rec (Bool.rec (Bool.rec none (some aca) (Nat.beq f 41)) (Bool.rec none (some acd) (Nat.beq f 40)) (Nat.blt f 41)) (Bool.rec none (some acf) (Nat.beq f 38)) (Nat.blt f 40)) (Nat.blt f 42)) (Bool.rec (Bool.rec (Bool.rec (Bool.rec none (some ach) (Nat.beq f 36)) (Bool.rec none (some acj) (Nat.beq f 34)) (Nat.blt f 36)) (Bool.rec none (some acl) (Nat.beq f 33)) (Nat.blt f 34)) (Bool.rec (Bool.rec none (some acn) (Nat.beq f 32)) (Bool.rec none (some acp) (Nat.beq f 30)) (Nat.blt f 32)) (Nat.blt f 33)) (Nat.blt f 38)) (Bool.rec (Bool.rec (Bool.rec (Bool.rec (Bool.rec none (some acr) (Nat.beq f 26)) (Bool.rec none (some acu) (Nat.beq f 25)) (Nat.blt f 26)) (Bool.rec none (some acw) (Nat.beq f 24)) (Nat.blt f 25)) (Bool.rec (Bool.rec (Bool.rec none (some acy) (Nat.beq f 23)) (Bool.rec none (some acA) (Nat.beq f 22)) (Nat.blt f 23)) (Bool.rec none (some acC) (Nat.beq f 21)) (Nat.blt f 22)) (Nat.blt f 24)) (Bool.rec (Bool.rec (Bool.rec (Bool.rec none (some acE) (Nat.beq f 19)) (Bool.rec none (some acG) (Nat.beq f 16)) (Nat.blt f 19)) (Bool.rec none (some acI) (Nat.beq f 14)) (Nat.blt f 16)) (Bool.rec (Bool.rec none (some acK) (Nat.beq f 13)) (Bool.rec none (some acM) (Nat.beq f 12)) (Nat.blt f 13)) (Nat.blt f 14)) (Nat.blt f 21)) (Nat.blt f 30)) (Nat.blt f 45)) (Nat.blt f 80))
theorem ay {f n:Nat} {x y:XF} (hy:aw n y) (h:(Bool.rec (motive:=fun _=>Option XF) none (some y) (Nat.beq f n))=some x):aw f x:=by
 cases hb:Nat.beq f n with
 |false=>rw[hb]at h;cases h
 |true=>rw[hb]at h;cases h;rw[Nat.eq_of_beq_eq_true hb];exact hy
theorem az {f n:Nat} {a b:Option XF} {x:XF} (ha:a=some x→aw f x) (hb:b=some x→aw f x) (h:(Bool.rec (motive:=fun _=>Option XF) a b (Nat.blt f n))=some x):aw f x:=by
 cases hc:Nat.blt f n with
 |false=>rw[hc]at h;exact ha h
 |true=>rw[hc]at h;exact hb h
theorem aaR (f:Nat) (x:XF) (h:IX f=some x):aK Tryz.prog f x=true∧plain (dM x)=true:=(az (az (az (az (az (az (az (ay Ud) (ay Ue)) (ay Uf)) (az (az (ay Ug) (ay Uh)) (ay Ui))) (az (az (az (ay Uj) (ay Uk)) (ay Ul)) (az (az (ay Um) (ay Un)) (ay Uo)))) (az (az (az (az (ay Up) (ay Uq)) (ay Ur)) (az (az (ay Us) (ay Ut)) (ay Uu))) (az (az (az (ay Uv) (ay Uw)) (ay Ux)) (az (ay Uy) (ay Uz))))) (az (az (az (az (az (ay UA) (ay UB)) (ay UC)) (az (az (ay UD) (ay UE)) (ay UF))) (az (az (az (ay UG) (ay UH)) (ay UI)) (az (ay UJ) (ay aaS)))) (az (az (az (az (ay aaU) (ay aaW)) (ay aaY)) (az (az (ay aa2) (ay aa4)) (ay aa6))) (az (az (az (ay aa8) (ay aba)) (ay abc)) (az (ay abe) (ay abg)))))) (az (az (az (az (az (az (ay abi) (ay abk)) (ay abm)) (az (az (ay abo) (ay abq)) (ay abt))) (az (az (az (ay abv) (ay abx)) (ay abz)) (az (az (ay abB) (ay abD)) (ay abF)))) (az (az (az (az (ay abH) (ay abJ)) (ay abL)) (az (az (ay abN) (ay abP)) (ay abR))) (az (az (az (ay abT) (ay abV)) (ay abX)) (az (ay abZ) (ay ab1))))) (az (az (az (az (az (ay ab3) (ay ab5)) (ay ab7)) (az (az (ay ab9) (ay acb)) (ay ace))) (az (az (az (ay acg) (ay aci)) (ay ack)) (az (ay acm) (ay aco)))) (az (az (az (az (ay acq) (ay acs)) (ay acv)) (az (az (ay acx) (ay acz)) (ay acB))) (az (az (az (ay acD) (ay acF)) (ay acH)) (az (ay acJ) (ay acL))))))) h
theorem px:Tryz.prog.follows .mixedOrders=true:=by kernel_rfl
end Go.Proofs.Tryz
namespace Go.Proofs.Tryz
open Go Go.RowKit Go.Sy
open Go.Eng hiding aj
set_option maxRecDepth 1000000
set_option linter.unusedVariables false
set_option maxHeartbeats 4000000
attribute [local irreducible] aq
noncomputable abbrev rQ (x0:Nat→Value) (x1:Int):AObj:=.blk false 86 21 [[hv (x0 0),hv (x0 1),hv (x0 2),hv (x0 3),hv (x0 4),hv (x0 5),hv (x0 6),hv (x0 7),.sy (.int 1 x1),.int 2 (.ofNat 1),hv (x0 10),hv (x0 11),hv (x0 12),hv (x0 13),hv (x0 14),hv (x0 15),hv (x0 16),hv (x0 17),hv (x0 18),hv (x0 19),hv (x0 20)]]
noncomputable abbrev Aq (x0:List Nat) (x1:Int) (x2:Int):AV:=.agg [.int 1 (.ofNat 2),.int 1 (.ofNat 0),.int 2 (.ofNat 0),.int 3 (.ofNat 0),.int 1 (.ofNat 0),.int 1 (.ofNat 0),.int 1 (.ofNat 0),.int 1 (.ofNat 0),.int 1 (.ofNat 0),.int 1 (.ofNat 0),.int 1 (.ofNat 0),.int 3 (.ofNat 0),.nilS,.int 1 (.ofNat 0),.str x0,.nilS,.sy (.int 1 x1),.sy (.int 2 x2)]
noncomputable abbrev cU (x0:Nat) (x1:Nat):AObj:=.blk false 113 1 [[.fn x0 [.ptr x1 0]]]
noncomputable abbrev eu (x0:Int):AV:=.agg [.sy (.int 1 x0),.int 2 (.ofNat 1)]
noncomputable abbrev o_r (x0:List Nat) (x1:Int):AObj:=.blk false 74 31 [[.int 1 (.ofNat 11),.int 1 (.ofNat 0),.int 1 (.ofNat 0),.int 3 (.ofNat 0),.int 3 (.ofNat 0),.int 3 (.ofNat 0),.int 3 (.ofNat 0),.int 4 (.ofNat 0),.int 4 (.ofNat 0),.int 1 (.ofNat 0),.int 2 (.ofNat 0),.int 3 (.ofNat 0),.int 1 (.ofNat 0),.int 1 (.ofNat 0),.int 1 (.ofNat 0),.int 1 (.ofNat 0),.int 1 (.ofNat 0),.int 1 (.ofNat 0),.int 1 (.ofNat 0),.nilS,.int 1 (.ofNat 0),.str x0,.int 1 (.ofNat 0),.int 3 (.ofNat 0),.nilS,.sy (.int 1 x1),.int 2 (.ofNat 1),.bool false,.nilS,.nilS,.nilS]]
noncomputable abbrev iC (x0:Int):AObj:=.blk false 52 2 [[.sy (.int 1 x0),.int 2 (.ofNat 1)]]
noncomputable abbrev o_A (x0:Nat→Value) (x1:Int) (x2:Int):AObj:=.blk false 86 21 [[hv (x0 0),.sy (.int 3 x1),hv (x0 2),hv (x0 3),hv (x0 4),.ptr 1 0,hv (x0 6),.int 1 (.ofNat 0),.sy (.int 1 x2),.int 2 (.ofNat 1),hv (x0 10),hv (x0 11),hv (x0 12),hv (x0 13),hv (x0 14),hv (x0 15),hv (x0 16),hv (x0 17),hv (x0 18),hv (x0 19),hv (x0 20)]]
noncomputable abbrev o_B (x0:Nat→Value) (x1:Int) (x2:Int):AObj:=.blk false 86 21 [[hv (x0 0),.sy (.int 3 x1),hv (x0 2),hv (x0 3),hv (x0 4),hv (x0 5),hv (x0 6),hv (x0 7),.sy (.int 1 x2),.int 2 (.ofNat 1),hv (x0 10),hv (x0 11),hv (x0 12),hv (x0 13),hv (x0 14),hv (x0 15),hv (x0 16),hv (x0 17),hv (x0 18),hv (x0 19),hv (x0 20)]]
noncomputable abbrev o_C (x0:Nat→Value):AObj:=.blk false 86 21 [[hv (x0 0),hv (x0 1),hv (x0 2),hv (x0 3),hv (x0 4),hv (x0 5),hv (x0 6),.int 1 (.ofNat 0),hv (x0 8),hv (x0 9),hv (x0 10),hv (x0 11),hv (x0 12),hv (x0 13),hv (x0 14),hv (x0 15),hv (x0 16),hv (x0 17),hv (x0 18),hv (x0 19),hv (x0 20)]]
noncomputable abbrev o_D (x0:Nat→Value) (x1:Int):AObj:=.blk false 86 21 [[hv (x0 0),hv (x0 1),hv (x0 2),.ptr 1 0,hv (x0 4),hv (x0 5),.sy (.int 0 x1),hv (x0 7),hv (x0 8),hv (x0 9),hv (x0 10),hv (x0 11),hv (x0 12),hv (x0 13),hv (x0 14),hv (x0 15),hv (x0 16),hv (x0 17),hv (x0 18),hv (x0 19),hv (x0 20)]]
noncomputable abbrev o_E (x0:Nat→Value):AObj:=.blk false 86 21 [[hv (x0 0),hv (x0 1),hv (x0 2),.ptr 1 0,.ptr 2 0,hv (x0 5),hv (x0 6),hv (x0 7),hv (x0 8),hv (x0 9),hv (x0 10),hv (x0 11),hv (x0 12),hv (x0 13),hv (x0 14),hv (x0 15),hv (x0 16),hv (x0 17),hv (x0 18),hv (x0 19),hv (x0 20)]]
noncomputable abbrev o_F (x0:Prop) (x1:Prop) (x2:Prop) (x3:Prop) (x4:Prop) (x5:Prop) (x6:Prop) (x7:Prop):AObj:=.blk false 128 16 [[.sy (.bool x0),.sy (.bool x1),.sy (.bool x2),.sy (.bool x3),.sy (.bool x4),.sy (.bool x5),.sy (.bool x6),.sy (.bool x7),.bool false,.bool false,.bool false,.bool false,.bool false,.bool false,.bool false,.bool false]]
noncomputable abbrev Tb (x0:Nat→Value) (x1:Nat) (x2:Nat) (x3:Nat) (x4:Option Nat):AObj:=.blk false 34 5 [[hv (x0 0),hv (x0 1),.sy (.psub 1 33 x1 x2 x3 x4),hv (x0 3),hv (x0 4)]]
noncomputable abbrev mo (x0:Nat) (x1:Nat):AObj:=.blk false x0 1 [[.ptr x1 0]]
noncomputable abbrev o_M:AObj:=.blk false 34 5 [[.nilS,.nilS,.nilS,.int 0 (.ofNat 0),.int 0 (.ofNat 0)]]
noncomputable abbrev Ta:AObj:=.blk false 5 1 [[.int 1 (.ofNat 0)]]
abbrev KE:=AV→T→Nat→Bool
abbrev IE:=List AV×T×Nat
abbrev IL:=SL×T×Nat
noncomputable def fg {α:Type} (I:α→IE) (sp:α→KE→Bool):co:=fun us M nx K=>dT fun p:α=>ac (aq ((us,M,nx)=I p)) (sp p K)
theorem JF {P:Program} (hm:P.follows .mixedOrders=true) {cf:eR} (hcf:gn P cf) {lp:bM} {lf f k:Nat} {xf:XF} {α:Type} {I:α→IE} {sp:α→KE→Bool} (hf:aK P f xf=true) (hkp:di k (dM xf)=true) (hlp:∀b j x,(b,j,x)∈cZ (dM xf)→bg P (Kf xf) k lp b j x)
  (h:∀p K,sp p K=true→tD k cf lp lf xf (I p).1 (I p).2.1 (I p).2.2 K=true):aB P f k (fg I sp):=
 VH hm hcf hf hkp hlp fun us M nx K hk=>by
  obtain⟨p,h1⟩:=bj hk
  obtain⟨e,h2⟩:=ai h1
  have h3:=h p K h2
  rw[←e]at h3
  exact h3
noncomputable def iu {α:Type} (pre:α→Prop) (out:α→KE→Bool) (p:α) (K:KE):Bool:=ac (aq (pre p)) (out p K)
noncomputable def adR (prev:Nat→List AV→T→Option ES) (k:Nat) (es:co) (g:Nat) (l:List (Nat×Nat)) (f:Nat) (vs:List AV) (M:T):Option ES:=Bool.rec (prev f vs M) (some (.mk k es [])) (oE f g vs l)
def gj (P:Program) (nat:Nat→List AV→T→Option ES):Prop:=∀f vs M k sp hs,nat f vs M=some (.mk k sp hs)→qI P f k sp hs
theorem VJ {P:Program} {prev:Nat→List AV→T→Option ES} {k g:Nat} {es:co} {l:List (Nat×Nat)} (h1:aB P g k es) (h2:gj P prev):gj P (adR prev k es g l):=fun f vs M k' sp hs h=>ox (AJ h1) (h2 f vs M k' sp hs) h
noncomputable def adQ (prev:Nat→List AV→T→Option ES) (k:Nat) (es:co) (g:Nat) (l:List (Nat×Nat)) (b:List AV→T→Bool) (f:Nat) (vs:List AV) (M:T):Option ES:=Bool.rec (prev f vs M) (Bool.rec (prev f vs M) (some (.mk k es [])) (b vs M)) (oE f g vs l)
theorem VI {P:Program} {prev:Nat→List AV→T→Option ES} {k g:Nat} {es:co} {l:List (Nat×Nat)} {b:List AV→T→Bool} (h1:aB P g k es) (h2:gj P prev):gj P (adQ prev k es g l b):=fun f vs M k' sp hl h=>by
 have h:(Bool.rec (prev f vs M) (Bool.rec (prev f vs M) (some (.mk k es [])) (b vs M)) (oE f g vs l):Option ES)=some (.mk k' sp hl):=h
 cases hb:b vs M with
 |false=>rw[hb]at h;cases hs:oE f g vs l<;>rw[hs]at h<;>exact h2 f vs M k' sp hl h
 |true=>rw[hb]at h;exact ox (AJ h1) (h2 f vs M k' sp hl) h
noncomputable def Tf (prev:Nat→List AV→T→Option ES) (k:Nat) (hs:List Nat) (es:co) (g:Nat) (l:List (Nat×Nat)) (f:Nat) (vs:List AV) (M:T):Option ES:=Bool.rec (prev f vs M) (some (.mk k es hs)) (oE f g vs l)
theorem ND {P:Program} {prev:Nat→List AV→T→Option ES} {k g:Nat} {hs0:List Nat} {es:co} {l:List (Nat×Nat)} (h1:aB P g k es) (h2:gj P prev) (hh:Bw hs0=false:=by rfl):gj P (Tf prev k hs0 es g l):=fun f vs M k' sp hs h=>ox (AJ h1 hh) (h2 f vs M k' sp hs) h
noncomputable def Te (prev:Nat→List AV→T→Option ES) (k:Nat) (es:co) (g:Nat) (l:List (Nat×Nat)) (f:Nat) (vs:List AV) (M:T):Option ES:=Bool.rec (prev f vs M) (some (.mk k es [999])) (oE f g vs l)
theorem NC {P:Program} {prev:Nat→List AV→T→Option ES} {k g:Nat} {es:co} {l:List (Nat×Nat)} (h1:dk P g k es) (h2:gj P prev):gj P (Te prev k es g l):=fun f vs M k' sp hs h=>ox (adP h1) (h2 f vs M k' sp hs) h
noncomputable def adS:Nat→List AV→T→Option ES:=fun _ _ _=>none
theorem VK {P:Program}:gj P adS:=fun _ _ _ _ _ _ h=>by cases h
noncomputable def bQ:bM:=fun _ _ _ _ _=>false
noncomputable def iP (p:Prop) (x y:Bool):Bool:=aN (aq p) x y
theorem iI {p:Prop} {x y:Bool} (h:p→x=true) (k:¬p→y=true):iP p x y=true:=ifP h k
theorem FK {a b:Int}:iN 0 a b=(a<b):=rfl
theorem FJ {a b:Int}:iN 1 a b=(a≤b):=rfl
theorem FH {a b:Int}:iN 2 a b=(b<a):=rfl
theorem FG {a b:Int}:iN 3 a b=(b≤a):=rfl
theorem FF {a b:Int}:iN 4 a b=(a=b):=rfl
theorem FE {a b:Int}:iN 5 a b=(¬a=b):=rfl
theorem oN (n:Nat):Int.ofNat n=(n:Int):=rfl
theorem oL (n:Nat):Int.ofNat (no_index (OfNat.ofNat n))=(OfNat.ofNat n:Int):=rfl
noncomputable abbrev RI (p:Prop) (x y:Bool):Bool:= @Bool.rec (fun _=>Bool) y x (aq p)
theorem wM {p q:Prop} {b:Bool} (h:q) (k:b=true) (e:p=q:=by first|(dsimp only[FK,FJ,FH,FG,FF,FE,oL,oN,Int.reduceNegSucc]<;>exact rfl)|exact rfl|fail):RI p b false=true:=by subst e;exact aM h k
theorem wQ {α:Sort _} {f:α→Bool} (h:aq (∃x,f x=true)=true):aq (∃x,f x=true)=true:=h
theorem wE (K:KE) {v:AV} {M:T} {n:Nat} (h:K v M n=true):K v M n=true:=h
theorem wE4 (K:KC) {e:Nat} {v:SL} {M:T} {n:Nat} (h:K e v M n=true):K e v M n=true:=h
theorem wP {p q:Prop} (h:q) (e:p=q:=by first|(dsimp only[FK,FJ,FH,FG,FF,FE,oL,oN,Int.reduceNegSucc]<;>exact rfl)|exact rfl|fail):aq p=true:=by subst e;exact prB_true.2 h
theorem wD {a b:Bool} (h:a=true) (k:b=true):(a&&b)=true:=by subst h;exact k
theorem wV {b c:Bool} (h:c=true) (k:b=true): @Bool.rec (fun _=>Bool) false b c=true:=by subst h;exact k
theorem wN {b:Bool} {α:Sort _} {f:α→Bool} (h:∀x,f x=true) (k:b=true):RI (∀x,f x=true) b false=true:=aM h k
theorem wI {p q:Prop} {x y:Bool} (hx:q→x=true) (hy:¬q→y=true) (e:p=q:=by first|(dsimp only[FK,FJ,FH,FG,FF,FE,oL,oN,Int.reduceNegSucc]<;>exact rfl)|exact rfl|fail):RI p x y=true:=by subst e;exact ifP hx hy
theorem wJ {p q:Prop} {x:Bool} (h:q→x=true) (e:p=q:=by first|(dsimp only[FK,FJ,FH,FG,FF,FE,oL,oN,Int.reduceNegSucc]<;>exact rfl)|exact rfl|fail):RI p x true=true:=by subst e;exact ifP h fun _=>rfl
theorem wA {α:Sort _} {f:α→Bool} (h:∀x,f x=true):aq (∀x,f x=true)=true:=aP h
theorem wC {α:Sort _} {β:Type _} {s:β} {I:α→β} {sp:α→Bool} (q:α) (e:∀t,I q=t→s=t) (k:sp q=true):aq (∃q,ac (aq (s=I q)) (sp q)=true)=true:=aW q (aM (e _ rfl) k)
abbrev Cl {α β κ:Type _} (s:β) (I:α→β) (pre:α→Prop) (out:α→κ→Bool) (K:κ):Prop:=aq (∃p,ac (aq (s=I p)) (ac (aq (pre p)) (out p K))=true)=true
theorem wS {α β κ:Type _} {s:β} {I:α→β} {pre:α→Prop} {out:α→κ→Bool} {K:κ} (w:α) (e:∀t,I w=t→s=t) (g:pre w) (h:out w K=true):Cl s I pre out K:=wC w e (aM g h)
theorem wX {α:Sort _} {P:α→Prop} {k:α→Bool} (q:α) (e:P q) (h:k q=true):aq (∃q,ac (aq (P q)) (k q)=true)=true:=aW q (aM e h)
theorem wY {α:Sort _} {P P2:α→Prop} {k:α→Bool} (q:α) (e:P q) (e2:P2 q) (h:k q=true):aq (∃q,ac (aq (P q)) (ac (aq (P2 q)) (k q))=true)=true:=aW q (aM e (aM e2 h))
theorem wO {R:Type} {po:R→Prop} {kk:R→Bool} (h:∀r,po r→kk r=true):aj (fun r=>iP (po r) (kk r) true)=true:=aP fun r=>iI (h r) fun _=>rfl
theorem sd {p:Prop} (h:p:=by first|(rfl;done)|(omega;done)|(constructor<;>omega;done)|(simp only[mP];omega;done)|(unfold bU;omega;done)|(simp;done)|(assumption;done)|(exact tZ _;done)|(exact⟨akB _,_,pD _,rfl⟩;done)|fail):p:=h
noncomputable abbrev Cg (nat:Nat→List AV→T→Option ES):eR:=It IX nat bQ 600 40
theorem vj {nat:Nat→List AV→T→Option ES} (h:gj Tryz.prog nat):gn Tryz.prog (Cg nat):=Cj (lp:=bQ) (lf:=600) px aaR h 40
structure NN where
 val:Nat→List AV→T→Option ES
 property:gj Tryz.prog val
noncomputable def TT:NN:=⟨adS,VK⟩
noncomputable def bW (p:NN) {k g:Nat} {es:co} (h:aB Tryz.prog g k es) (l:List (Nat×Nat)):NN:=⟨adR p.1 k es g l,VJ h p.2⟩
noncomputable def fK (p:NN) {k g:Nat} {es:co} (h:aB Tryz.prog g k es) (l:List (Nat×Nat)) (b:List AV→T→Bool):NN:=⟨adQ p.1 k es g l b,VI h p.2⟩
noncomputable def iD (p:NN) {k g:Nat} {es:co} (h:aB Tryz.prog g k es) (l:List (Nat×Nat)) (hs:List Nat) (hh:Bw hs=false:=by rfl):NN:=⟨Tf p.1 k hs es g l,ND h p.2 hh⟩
noncomputable def ia (p:NN) {k g:Nat} {es:co} (h:dk Tryz.prog g k es) (l:List (Nat×Nat)):NN:=⟨Te p.1 k es g l,NC h p.2⟩
noncomputable def aO {α:Type} (I:α→IE) (pre:α→Prop) (out:α→KE→Bool):co:=fun us M nx K=>dT fun p=>ac (aq ((us,M,nx)=I p)) (ac (aq (pre p)) (out p K))
abbrev Gd (x:XC) (N k:Nat) (lp:bM):Prop:=∀b j y,(b,j,y)∈cZ x→bg Tryz.prog N k lp b j y
theorem nF {nat:NN} {f k:Nat} {xf:XF} {lp:bM} {α:Type} {I:α→IE} {pre:α→Prop} {out:α→KE→Bool} (hf:aK Tryz.prog f xf=true) (hl:Gd (dM xf) (Kf xf) k lp) (hv:∀p K,pre p→out p K=true→tD k (Cg nat.1) lp 600 xf (I p).1 (I p).2.1 (I p).2.2 K=true) (hkp:di k (dM xf)=true:=by rfl):aB Tryz.prog f k (aO I pre out):=
 JF px (vj nat.2) hf hkp hl fun p K hk=>hv p K (ai hk).1 (ai hk).2
theorem nE {nat:NN} {f k:Nat} {xf:XF} {α:Type} {I:α→IE} {pre:α→Prop} {out:α→KE→Bool} (hf:aK Tryz.prog f xf=true) (hv:∀p K,pre p→out p K=true→tD k (Cg nat.1) bQ 600 xf (I p).1 (I p).2.1 (I p).2.2 K=true) (hl:cZ (dM xf)=[]:=by rfl) (hkp:di k (dM xf)=true:=by rfl):aB Tryz.prog f k (aO I pre out):=
 nF hf (fun b j y h=>by rw[hl]at h;cases h) hv hkp
theorem Kc {nat:NN} {f k:Nat} {xf:XF} {lp:bM} {α:Type} {I:α→IE} {pre:α→Prop} {out:α→KE→Bool} (hf:aK Tryz.prog f xf=true) (hl:Gd (dM xf) (Kf xf) k lp) (hv:∀p K,pre p→out p K=true→tD k (Cg nat.1) lp 600 xf (I p).1.tail (I p).2.1 (I p).2.2 K=true) (hkp:di k (dM xf)=true:=by rfl):dk Tryz.prog f k (aO I pre out):=
 VG px (vj nat.2) hf hkp hl fun us M nx K hk=>by
  obtain⟨p,h1⟩:=bj hk
  obtain⟨e,h2⟩:=ai h1
  have h3:=hv p K (ai h2).1 (ai h2).2
  rw[←e]at h3
  exact h3
theorem nQE {nat:NN} {f k:Nat} {xf:XF} {α:Type} {I:α→IE} {pre:α→Prop} {out:α→KE→Bool} (hf:aK Tryz.prog f xf=true) (hv:∀p K,pre p→out p K=true→tD k (Cg nat.1) bQ 600 xf (I p).1.tail (I p).2.1 (I p).2.2 K=true) (hl:cZ (dM xf)=[]:=by rfl) (hkp:di k (dM xf)=true:=by rfl):dk Tryz.prog f k (aO I pre out):=
 Kc hf (fun b j y h=>by rw[hl]at h;cases h) hv hkp
noncomputable def ce (prev:bM) (j0:Nat) {α:Type} (I:α→IL) (pre:α→Prop) (out:α→KC→Bool):bM:=fun j S M nx K=>Bool.rec (prev j S M nx K) (dT fun p=>ac (aq ((S,M,nx)=I p)) (ac (aq (pre p)) (out p K))) (Nat.beq j j0)
theorem lL {nat:NN} {N k j:Nat} {lp:bM} {bd:XC} {α:Type} (mu:α→Nat) {I:α→IL} {pre:α→Prop} {out:α→KC→Bool} (hl:Gd bd N k lp) (he:∀S M nx K,lp j S M nx K=dT fun p=>ac (aq ((S,M,nx)=I p)) (ac (aq (pre p)) (out p K)))
  (hv:∀p K,pre p→out p K=true→iM (Cg nat.1) lp 600 bd (I p).1 (I p).2.1 (I p).2.2 (fun e S M nx=>Nat.casesOn e (dT fun q=>ac (aq ((S,M,nx)=I q∧mu q<mu p)) (ac (aq (pre q)) (out q K))) (fun e2=>K (Nat.succ e2) S M nx))=true) (hkp:di k bd=true:=by rfl):bg Tryz.prog N k lp true j bd:=
 air (lf:=600) px (vj nat.2) hkp I mu (fun p K=>ac (aq (pre p)) (out p K)) hl (fun S M nx K h=>by obtain⟨p,h⟩:=bj ((he S M nx K).symm.trans h);exact⟨p,(ai h).1,(ai h).2⟩) fun p K h=>hv p K (ai h).1 (ai h).2
theorem lP {nat:NN} {N k j:Nat} {lp:bM} {bd:XC} {α:Type} {I:α→IL} {pre:α→Prop} {out:α→KC→Bool} (hl:Gd bd N k lp) (he:∀S M nx K,lp j S M nx K=dT fun p=>ac (aq ((S,M,nx)=I p)) (ac (aq (pre p)) (out p K)))
  (hv:∀p K,pre p→out p K=true→iM (Cg nat.1) lp 600 bd (I p).1 (I p).2.1 (I p).2.2 K=true) (hkp:di k bd=true:=by rfl):bg Tryz.prog N k lp false j bd:=by
 refine ah0 (lf:=600) px (vj nat.2) hkp hl fun S M nx K h=> ?_
 obtain⟨p,h⟩:=bj ((he S M nx K).symm.trans h)
 obtain⟨e,h9⟩:=ai h
 have e1:S=(I p).1:=congrArg Prod.fst e
 have e2:M=(I p).2.1:=congrArg (fun x=>x.2.1) e
 have e3:nx=(I p).2.2:=congrArg (fun x=>x.2.2) e
 subst e1;subst e2;subst e3
 exact hv p K (ai h9).1 (ai h9).2
theorem cq {x:XC} {N k:Nat} {lp:bM} (h:cZ x=[]:=by rfl):Gd x N k lp:=fun b j y q=>by rw[h]at q;cases q
theorem dC {x:XC} {N k:Nat} {lp:bM} {b:Bool} {j:Nat} {y:XC} (l:bg Tryz.prog N k lp b j y) (h:cZ x=[(b,j,y)]:=by rfl):Gd x N k lp:=fun b j y q=>by rw[h]at q;simp only[List.mem_cons,List.not_mem_nil,or_false]at q;cases q;exact l
theorem cn {α:Type} {β:Type _} {s:β} {I:α→β} {pre:α→Prop} {o:α→Bool} (w:α) (e:∀t,I w=t→s=t:=by first|(intro t h;(first|dsimp only[Sn,dm,vy,fA,Sq,dl,vw,gG,Sz,da,vv,jc,Fm,dy]at h|dsimp only[Sn,dm,vy,fA,Sq,dl,vw,gG,Sz,da,vv,jc]at h|dsimp only at h|skip);subst h;exact rfl)|fail) (g:pre w:=by first|((try dsimp only[oL,oN,Int.reduceNegSucc]);first|done|exact yg|trivial|assumption|omega|(constructor<;>omega))|fail) (h:o w=true):aq (∃p,ac (aq (s=I p)) (ac (aq (pre p)) (o p))=true)=true:=aW w (aM (e _ rfl) (aM g h))
theorem jS {α:Type} {β:Type _} {s:β} {I:α→β} {mu:α→Nat} {n:Nat} {pre:α→Prop} {o:α→Bool} (q:α) (e:∀t,I q=t→s=t:=by first|(intro t h;(first|dsimp only[Sn,dm,vy,fA,Sq,dl,vw,gG,Sz,da,vv,jc,Fm,dy]at h|dsimp only[Sn,dm,vy,fA,Sq,dl,vw,gG,Sz,da,vv,jc]at h|dsimp only at h|skip);subst h;exact rfl)|fail) (h:mu q<n:=by first|((try dsimp only[oL,oN,Int.reduceNegSucc]);first|omega|exact ym)|fail) (g:pre q:=by first|((try dsimp only[oL,oN,Int.reduceNegSucc]);first|done|exact yb|trivial|assumption|omega)|fail) (k:o q=true:=by first|exact hK|exact yx|fail):aq (∃q,ac (aq (s=I q∧mu q<n)) (ac (aq (pre q)) (o q))=true)=true:=aW q (aM ⟨e _ rfl,h⟩ (aM g k))
theorem cQ {R:Type} {po:R→Prop} {kk:R→Bool} {b:Bool} (hK:aj (fun r=>iP (po r) (kk r) true)=true) (r:R) (e:∀t,kk r=t→b=t:=by first|(intro t h;(first|dsimp only[Sn,dm,vy,fA,Sq,dl,vw,gG,Sz,da,vv,jc,Fm,dy]at h|dsimp only[Sn,dm,vy,fA,Sq,dl,vw,gG,Sz,da,vv,jc]at h|dsimp only at h|skip);subst h;exact rfl)|fail) (h:po r:=by first|((try dsimp only[oL,oN,Int.reduceNegSucc,FK,FJ,FH,FG,FF,FE]);first|done|exact yp|trivial|assumption|omega)|fail):b=true:=(e _ rfl).trans (dx h (aU hK r))
theorem xC {R:Type} {kk:R→Bool} {b:Bool} (hK:aj kk=true) (r:R) (e:∀t,kk r=t→b=t:=by first|(intro t h;(first|dsimp only[Sn,dm,vy,fA,Sq,dl,vw,gG,Sz,da,vv,jc,Fm,dy]at h|dsimp only[Sn,dm,vy,fA,Sq,dl,vw,gG,Sz,da,vv,jc]at h|dsimp only at h|skip);subst h;exact rfl)|fail):b=true:=(e _ rfl).trans (aU hK r)
theorem RH {po:Prop} {kk b:Bool} (hK:iP po kk true=true) (e:b=kk:=by first|exact rfl|fail) (h:po:=by first|((try dsimp only[oL,oN,Int.reduceNegSucc,FK,FJ,FH,FG,FF,FE]);first|done|exact yp|trivial|assumption|omega)|fail):b=true:=e.trans (dx h hK)
theorem wz {p:Prop} (h:p:=by
 first
 |((repeat' ((try conv=>lhs;whnf)<;>first
   |(with_reducible first|(have:=nnx;first|(have:=x8;refine wA fun x9=> ?_)|(have:=x7;refine wA fun x8=> ?_)|(have:=x6;refine wA fun x7=> ?_)|(have:=x5;refine wA fun x6=> ?_)|(have:=x4;refine wA fun x5=> ?_)|(have:=x3;refine wA fun x4=> ?_)|(have:=x2;refine wA fun x3=> ?_)|(have:=x1;refine wA fun x2=> ?_)|refine wA fun x1=> ?_)|refine wA fun x=> ?_)
   |((with_reducible refine wJ fun hi=> ?_);(first|(have:=nnh;first|(have:=hi7;have hi8:=hi)|(have:=hi6;have hi7:=hi)|(have:=hi5;have hi6:=hi)|(have:=hi4;have hi5:=hi)|(have:=hi3;have hi4:=hi)|(have:=hi2;have hi3:=hi)|(have:=hi1;have hi2:=hi)|(have hi1:=hi))|skip);(first|exact yj|skip))
   |(with_reducible refine wN (fun x=> ?_) ?_)
   |((with_reducible refine wM ?_ ?_);focus (try(first|exact sd|exact ys)))
   |(with_reducible refine wV ?_ ?_)
   |((with_reducible refine wI (fun hc=> ?_) (fun hc=> ?_))<;>(first|(have:=nnq;first|rw[hi.1]at hc|rw[hi.2.1]at hc|rw[hi]at hc)|skip)<;>(first|(have:=nnl;first|(have hcl:=congrArg List.length hc;simp only[akn]at hcl)|(have hcl:=List.length_pos_iff.2 hc))|skip)<;>(first|(have:=nnc;first|(have:=hc3;have hc4:=hc)|(have:=hc2;have hc3:=hc)|(have:=hc1;have hc2:=hc)|(have hc1:=hc))|skip)<;>(first|exact yw|skip)<;>(try exact yd))
   |((with_reducible refine wQ ?_);first|exact yq|exact jS (.mk ..)|exact jS (.mk (.mk ..) ..)|exact jS (.mk (.mk ..) (.mk ..) ..)|((first|refine cn (.mk ..) (h:= ?_)|refine cn (.mk (.mk ..) ..) (h:= ?_)|refine cn (.mk (.mk ..) (.mk ..) ..) (h:= ?_)|refine cn (.mk _ _ (.mk ..) ..) (h:= ?_)|refine cn (.mk _ (.mk ..) ..) (h:= ?_)|refine cn (.mk (.mk ..) _ _ (.mk ..) ..) (h:= ?_)|refine cn (.mk (.mk ..) (.mk ..) _ _ (.mk ..) ..) (h:= ?_));exact wo))
   |((with_reducible first|refine wE K ?_|refine wE4 K ?_);first|exact ye|exact hK|exact cQ hK (.mk ..)|exact cQ hK (.mk (.mk ..) ..)|exact cQ hK (.mk (.mk ..) (.mk ..) ..)|exact cQ hK (.mk [] ..)|exact cQ hK (.mk (.mk ..) _ [] ..)|exact cQ hK (.mk (.mk ..) [] ..)|exact cQ hK0 (.mk ..)|exact cQ hK0 (.mk (.mk ..) ..)|exact cQ hK0 (.mk (.mk ..) (.mk ..) ..)|exact cQ hK0 (.mk [] ..)|exact cQ hK0 (.mk (.mk ..) _ [] ..)|exact cQ hK0 (.mk (.mk ..) [] ..)|exact cQ hK1 (.mk ..)|exact cQ hK1 (.mk (.mk ..) ..)|exact cQ hK1 (.mk (.mk ..) (.mk ..) ..)|exact cQ hK1 (.mk [] ..)|exact cQ hK1 (.mk (.mk ..) _ [] ..)|exact cQ hK1 (.mk (.mk ..) [] ..)|exact cQ hK2 (.mk ..)|exact cQ hK2 (.mk (.mk ..) ..)|exact cQ hK2 (.mk (.mk ..) (.mk ..) ..)|exact cQ hK2 (.mk [] ..)|exact cQ hK2 (.mk (.mk ..) _ [] ..)|exact cQ hK2 (.mk (.mk ..) [] ..)|exact xC hK (.mk ..)|exact xC hK (.mk (.mk ..) ..)|exact xC hK0 (.mk ..)|exact xC hK0 (.mk (.mk ..) ..)|exact xC hK1 (.mk ..)|exact xC hK1 (.mk (.mk ..) ..)|exact xC hK2 (.mk ..)|exact xC hK2 (.mk (.mk ..) ..)|exact RH hK|exact RH hK0|exact RH hK1|exact RH hK2|exact hK0|exact hK1|exact hK2)
   |exact yd
   |((with_reducible refine wP ?_);first|rfl|exact yz)
   |exact rfl
   |refine wD ?_ ?_));done)
 |fail):p:=h
theorem wo {p:Prop} (h:p:=by
 first
 |((first|((with_reducible first|refine dD (wO fun r hi=> ?_) (dD (wO fun r hi=> ?_) (wO fun r hi=> ?_))|refine dD (wO fun r hi=> ?_) (wO fun r hi=> ?_)|refine dD (iI (fun hi=> ?_) (fun _=>rfl)) (wO fun r hi=> ?_)|refine dD (iI (fun hi=> ?_) (fun _=>rfl)) (iI (fun hi=> ?_) (fun _=>rfl))|refine dD (wO fun r hi=> ?_) (iI (fun hi=> ?_) (fun _=>rfl))|refine wO fun r hi=> ?_)<;>(first|(have:=nnr;revert r;(first|(have:=r6;intro r7)|(have:=r5;intro r6)|(have:=r4;intro r5)|(have:=r3;intro r4)|(have:=r2;intro r3)|(have:=r1;intro r2)|intro r1);try intro hi)|skip)<;>(try dsimp only[oL,oN,Int.reduceNegSucc]at hi)<;>(first|(have:=nnh;first|(have:=hi7;have hi8:=hi)|(have:=hi6;have hi7:=hi)|(have:=hi5;have hi6:=hi)|(have:=hi4;have hi5:=hi)|(have:=hi3;have hi4:=hi)|(have:=hi2;have hi3:=hi)|(have:=hi1;have hi2:=hi)|(have hi1:=hi))|skip)<;>(first|exact yn|skip))|(with_reducible first|(have:=nnx;first|(have:=x8;refine aP fun x9=> ?_)|(have:=x7;refine aP fun x8=> ?_)|(have:=x6;refine aP fun x7=> ?_)|(have:=x5;refine aP fun x6=> ?_)|(have:=x4;refine aP fun x5=> ?_)|(have:=x3;refine aP fun x4=> ?_)|(have:=x2;refine aP fun x3=> ?_)|(have:=x1;refine aP fun x2=> ?_)|refine aP fun x1=> ?_)|refine aP fun r=> ?_)|skip)<;>exact wz)
 |fail):p:=h
def am (x:Int):List PL:=[.sint 1 x,.int 2 (.ofNat 1)]
noncomputable abbrev bZ (x0:Int) (x1:Value) (x2:List Int) (x3:Int) (x4:Nat) (x5:Nat) (x6:Int) (x7:Int) (x8:Prop) (x9:Nat):AObj:=.blk false 104 10 [[.int 1 (.ofNat 0),.sy (.int 3 x0),.sy (.imm x1 2 Int x2 am),.sy (.int 1 x3),.int 2 (.ofNat 1),.sy (.prow x4 x5),.sy (.int 0 x6),.sy (.int 0 x7),.sy (.bool x8),.map x9]]
noncomputable abbrev aD (x0:List Int):AObj:=.prow 52 2 Int x0 am
noncomputable abbrev cX (x0:Int) (x1:Value) (x2:List Int):AObj:=.blk false 45 3 [[.int 1 (.ofNat 0),.sy (.int 3 x0),.sy (.imm x1 2 Int x2 am)]]
noncomputable abbrev Ar (x0:Nat→Value) (x1:Value) (x2:List Int) (x3:Int) (x4:Nat) (x5:Nat) (x6:Nat) (x7:Nat):AObj:=.blk false 86 21 [[.int 1 (.ofNat 0),hv (x0 1),.sy (.imm x1 2 Int x2 am),hv (x0 3),hv (x0 4),hv (x0 5),hv (x0 6),.int 1 (.ofNat 0),.sy (.int 1 x3),.int 2 (.ofNat 1),hv (x0 10),.sy (.prow x4 x5),hv (x0 12),.sy (.prow x6 x7),hv (x0 14),hv (x0 15),hv (x0 16),hv (x0 17),hv (x0 18),hv (x0 19),hv (x0 20)]]
noncomputable abbrev pL (x0:Nat→Value) (x1:Value) (x2:List Int) (x3:Int) (x4:Nat):AObj:=.blk false 161 11 [[hv (x0 0),hv (x0 1),.sy (.imm x1 2 Int x2 am),hv (x0 3),.sy (.int 0 x3),.map x4,hv (x0 6),hv (x0 7),hv (x0 8),hv (x0 9),hv (x0 10)]]
noncomputable abbrev SZ (x0:Int) (x1:Value) (x2:List Int) (x3:Nat→Value):AObj:=.blk false 86 21 [[.int 1 (.ofNat 0),.sy (.int 3 x0),.sy (.imm x1 2 Int x2 am),.ptr 1 0,hv (x3 4),hv (x3 5),hv (x3 6),.int 1 (.ofNat 0),hv (x3 8),hv (x3 9),hv (x3 10),hv (x3 11),hv (x3 12),hv (x3 13),hv (x3 14),hv (x3 15),hv (x3 16),hv (x3 17),hv (x3 18),hv (x3 19),hv (x3 20)]]
noncomputable abbrev ll (x0:Int) (x1:Value) (x2:List Int):AV:=.agg [.int 1 (.ofNat 0),.sy (.int 3 x0),.sy (.imm x1 2 Int x2 am)]
noncomputable abbrev o_t (x0:Int) (x1:Value) (x2:List Int) (x3:Nat→Value) (x4:Int) (x5:Int) (x6:Nat) (x7:Nat) (x8:Nat) (x9:Int):AObj:=.blk false 86 21 [[.int 1 (.ofNat 0),.sy (.int 3 x0),.sy (.imm x1 2 Int x2 am),.ptr 1 0,hv (x3 4),hv (x3 5),.sy (.int 0 x4),.int 1 (.ofNat 0),.sy (.int 1 x5),.int 2 (.ofNat 1),hv (x3 10),.sy (.prow 2 x6),.sy (.prow 3 x7),.sy (.prow 4 x8),hv (x3 14),hv (x3 15),hv (x3 16),.sy (.int 0 x9),hv (x3 18),hv (x3 19),hv (x3 20)]]
noncomputable abbrev o_u (x0:Int) (x1:Value) (x2:List Int) (x3:Nat→Value) (x4:Nat) (x5:Nat) (x6:Nat):AObj:=.blk false 86 21 [[.int 1 (.ofNat 0),.sy (.int 3 x0),.sy (.imm x1 2 Int x2 am),hv (x3 3),hv (x3 4),hv (x3 5),hv (x3 6),.int 1 (.ofNat 0),hv (x3 8),.int 2 (.ofNat 1),hv (x3 10),.sy (.prow 1 x4),.sy (.prow 2 x5),.sy (.prow 3 x6),hv (x3 14),hv (x3 15),hv (x3 16),hv (x3 17),hv (x3 18),hv (x3 19),hv (x3 20)]]
noncomputable abbrev o_v (x0:Int) (x1:Value) (x2:List Int) (x3:Nat→Value) (x4:Int) (x5:Int):AObj:=.blk false 86 21 [[.int 1 (.ofNat 0),.sy (.int 3 x0),.sy (.imm x1 2 Int x2 am),.ptr 1 0,hv (x3 4),hv (x3 5),.sy (.int 0 x4),hv (x3 7),.sy (.int 1 x5),.int 2 (.ofNat 1),hv (x3 10),hv (x3 11),hv (x3 12),hv (x3 13),hv (x3 14),hv (x3 15),hv (x3 16),hv (x3 17),hv (x3 18),hv (x3 19),hv (x3 20)]]
noncomputable abbrev o_w (x0:Int) (x1:Value) (x2:List Int) (x3:Nat) (x4:Nat→Value) (x5:Int) (x6:Nat) (x7:Nat):AObj:=.blk false 86 21 [[.int 1 (.ofNat 0),.sy (.int 3 x0),.sy (.imm x1 2 Int x2 am),.ptr x3 0,hv (x4 4),hv (x4 5),hv (x4 6),hv (x4 7),.sy (.int 1 x5),.int 2 (.ofNat 1),hv (x4 10),hv (x4 11),.sy (.prow x6 x7),hv (x4 13),hv (x4 14),hv (x4 15),hv (x4 16),hv (x4 17),hv (x4 18),hv (x4 19),hv (x4 20)]]
noncomputable abbrev o_x (x0:Int) (x1:Value) (x2:List Int) (x3:Nat) (x4:Nat→Value) (x5:Int) (x6:Int):AObj:=.blk false 86 21 [[.int 1 (.ofNat 0),.sy (.int 3 x0),.sy (.imm x1 2 Int x2 am),.ptr x3 0,hv (x4 4),hv (x4 5),hv (x4 6),.int 1 (.ofNat 0),.sy (.int 1 x5),.int 2 (.ofNat 1),hv (x4 10),hv (x4 11),hv (x4 12),hv (x4 13),hv (x4 14),.sy (.int 3 x6),hv (x4 16),hv (x4 17),hv (x4 18),hv (x4 19),hv (x4 20)]]
noncomputable abbrev o_y (x0:Int) (x1:Value) (x2:List Int) (x3:Nat→Value) (x4:Nat):AObj:=.blk false 86 21 [[.int 1 (.ofNat 0),.sy (.int 3 x0),.sy (.imm x1 2 Int x2 am),hv (x3 3),hv (x3 4),hv (x3 5),hv (x3 6),hv (x3 7),hv (x3 8),hv (x3 9),hv (x3 10),hv (x3 11),hv (x3 12),.sy (.prow 1 x4),hv (x3 14),hv (x3 15),hv (x3 16),hv (x3 17),hv (x3 18),hv (x3 19),hv (x3 20)]]
noncomputable abbrev o_z (x0:Int) (x1:Value) (x2:List Int) (x3:Nat→Value):AObj:=.blk false 86 21 [[.int 1 (.ofNat 0),.sy (.int 3 x0),.sy (.imm x1 2 Int x2 am),.ptr 1 0,hv (x3 4),hv (x3 5),hv (x3 6),hv (x3 7),hv (x3 8),hv (x3 9),hv (x3 10),hv (x3 11),hv (x3 12),hv (x3 13),hv (x3 14),hv (x3 15),hv (x3 16),hv (x3 17),hv (x3 18),hv (x3 19),hv (x3 20)]]
theorem KL {l:List Int} {x:Int} {i:Nat} (h:l[i]?=some x) (hn:¬x∈l.take i):x∈l∧l.idxOf x=i:=by
 refine⟨akp h,?_⟩
 have hi:=(List.getElem?_eq_some_iff.1 h).1
 have hx:=(List.getElem?_eq_some_iff.1 h).2
 have e:l=l.take i++x::l.drop (i+1):=by rw[←hx,List.getElem_cons_drop,List.take_append_drop]
 rw[e,List.idxOf_append,if_neg hn,List.idxOf_cons_self,akA,Nat.zero_add]
 exact Nat.min_eq_left (Nat.le_of_lt hi)
theorem EE {l:List Int} {x y:Int} {i:Nat} (h:l[i]?=some y) (hn:¬x∈l.take i) (hy:¬x=y):¬x∈l.take (i+1):=by
 rw[List.take_add_one,h]
 simp only[Option.toList,akz,List.mem_singleton,not_or]
 exact⟨hn,hy⟩
theorem tk {α:Type} {l:List α} {i:Nat} {x:α} (h:l[i]?=some x):l.take i++[x]=l.take (i+1):=by rw[List.take_add_one,h];rfl
theorem tkd {α:Type} {l:List α} {a i:Nat} {x:α} (h:l[a+i]?=some x):(l.drop a).take i++[x]=(l.drop a).take (i+1):=tk (by rw[List.getElem?_drop];exact h)
theorem Tu {l:List Int} {x:Int} (h:¬x∈l):((-1:Int)<0↔¬x∈l)∧(0≤(-1:Int)↔x∈l)∧(x∈l→(-1:Int)=((l.idxOf x:Nat):Int))∧ -1≤(-1:Int)∧(-1:Int)<(l.length:Int):=
 ⟨⟨fun _=>h,fun _=>by decide⟩,⟨fun q=>absurd q (by decide),fun q=>absurd q h⟩,fun q=>absurd q h,by decide,by omega⟩
theorem KB {l:List Int} {x z:Int} (h:x∈l∧z=((l.idxOf x:Nat):Int)):(z<0↔¬x∈l)∧(0≤z↔x∈l)∧(x∈l→z=((l.idxOf x:Nat):Int))∧ -1≤z∧z<(l.length:Int):=by
 have:=List.idxOf_lt_length_of_mem h.1
 exact⟨⟨fun q=>by omega,fun q=>absurd h.1 q⟩,⟨fun _=>h.1,fun _=>by omega⟩,fun _=>h.2,by omega,by omega⟩
noncomputable def tE (us:List AV) (a:Nat):Nat:=match bP us a with
 |some (.fn f _)=>f
 |_=>0
noncomputable def xi (us:List AV) (a:Nat) (M:T):Nat:=match bP us a with
 |some (.fn _ (.ptr i _::_))=>match M.get i with
  |some (.blk _ _ _ ((.fn f _::_)::_))=>f
  |_=>0
 |_=>0
def cC (_:Int):List PL:=[.bool true]
theorem oT {l:List Int} {D:Int→Prop} {f:Int→Bool} (hf:∀x,f x=true↔¬D x) {z:Int} (h:0≤z∧z<(l.length:Int)∧(∀x∈l.take z.toNat,¬D x)∧∀x,l[z.toNat]?=some x→D x):
  0≤z∧z≤z+1∧z+1≤(l.length:Int)∧l.length=l.length∧l.take z.toNat=(l.take (z+1).toNat).filter f∧l.drop (z+1).toNat=l.drop (z+1).toNat:=by
 obtain⟨h1,h2,h3,h4⟩:=h
 refine⟨h1,by omega,by omega,rfl,?_,rfl⟩
 have hz:z.toNat<l.length:=by omega
 have hx:l[z.toNat]?=some l[z.toNat]:=List.getElem?_eq_getElem hz
 have hd:=h4 _ hx
 rw[show(z+1).toNat=z.toNat+1 by omega,List.take_add_one,hx,List.filter_append]
 have e1:(l.take z.toNat).filter f=l.take z.toNat:=List.filter_eq_self.2 fun x hx=>(hf x).2 (h3 x hx)
 have e2:f l[z.toNat]=false:=by
  cases q:f l[z.toNat] with
  |false=>rfl
  |true=>exact absurd hd ((hf _).1 q)
 rw[e1]
 simp[e2]
theorem TE {l o:List Int} {j:Nat} {x:Int} (h:o.drop j=l.drop j) (hx:o[j]?=some x):l[j]?=some x∧o.drop (j+1)=l.drop (j+1):=by
 have e:(o.drop j)[0]?=(l.drop j)[0]?:=by rw[h]
 simp only[List.getElem?_drop,Nat.add_zero]at e
 refine⟨by rw[←e];exact hx,?_⟩
 have:=congrArg (List.drop 1) h
 simpa[List.drop_drop,Nat.add_comm] using this
theorem ri {l o:List Int} {i j x:Int} {f:Int→Bool} (g1:0≤i) (g2:i≤j) (g3:j≤(l.length:Int)) (g4:o.length=l.length) (g5:o.take i.toNat=(l.take j.toNat).filter f) (g6:o.drop j.toNat=l.drop j.toNat) (hj:j<(l.length:Int)) (hx:o[j.toNat]?=some x) (hf:f x=true):
  0≤i+1∧i+1≤j+1∧j+1≤(l.length:Int)∧(o.set i.toNat x).length=l.length∧(o.set i.toNat x).take (i+1).toNat=(l.take (j+1).toNat).filter f∧(o.set i.toNat x).drop (j+1).toNat=l.drop (j+1).toNat:=by
 obtain⟨h1,h2⟩:=TE g6 hx
 refine⟨by omega,by omega,by omega,by simp[g4],?_,?_⟩
 ·rw[show(j+1).toNat=j.toNat+1 by omega,show(i+1).toNat=i.toNat+1 by omega,List.take_add_one,List.take_add_one,h1,List.filter_append,←g5]
  rw[List.take_set_of_le (akB _),List.getElem?_set_self (by omega)]
  simp[hf]
 ·rw[show(j+1).toNat=j.toNat+1 by omega,List.drop_set_of_lt (by omega),h2]
theorem rj {l o:List Int} {i j x:Int} {f:Int→Bool} (g1:0≤i) (g2:i≤j) (g3:j≤(l.length:Int)) (g4:o.length=l.length) (g5:o.take i.toNat=(l.take j.toNat).filter f) (g6:o.drop j.toNat=l.drop j.toNat) (hj:j<(l.length:Int)) (hx:o[j.toNat]?=some x) (hf:f x=false):
  0≤i∧i≤j+1∧j+1≤(l.length:Int)∧o.length=l.length∧o.take i.toNat=(l.take (j+1).toNat).filter f∧o.drop (j+1).toNat=l.drop (j+1).toNat:=by
 obtain⟨h1,h2⟩:=TE g6 hx
 refine⟨g1,by omega,by omega,g4,?_,by rw[show(j+1).toNat=j.toNat+1 by omega,h2]⟩
 rw[show(j+1).toNat=j.toNat+1 by omega,List.take_add_one,h1,List.filter_append,←g5]
 simp[hf]
theorem vd {l:List Int} {D:Int→Prop} {f:Int→Bool} (hf:∀x,f x=true↔¬D x) (h:∀x∈l,¬D x):l=l.filter f∧l.length≤l.length:=⟨(List.filter_eq_self.2 fun x hx=>(hf x).2 (h x hx)).symm,akB _⟩
theorem vb {l o:List Int} {i:Int} {f:Int→Bool} (h:0≤i∧i≤(l.length:Int)∧o.length=l.length∧o.take i.toNat=l.filter f):(o.take i.toNat).take (i.toNat - 0)=l.filter f∧((o.take i.toNat).take (i.toNat - 0)).length≤l.length:=by
 have e:(o.take i.toNat).take (i.toNat - 0)=l.filter f:=by rw[List.take_take,Nat.sub_zero,Nat.min_self];exact h.2.2.2
 exact⟨e,by rw[e];exact List.length_filter_le _ _⟩
def gK (ph:Int) (m gt:List Int):List Int:=if ph=2 then [] else m.filter (fun x=>decide (¬x∈gt))
noncomputable def bd_l_ixi':NV (cS [] [] [] 0x4826d3fa807513a14f3d2975ced91378a7bee441823e92e5ae55422d400bde00c39cdf043):=⟨_,by conv=>rhs;reduce⟩
noncomputable abbrev CA:XC:=bd_l_ixi'.1
noncomputable def ft_ixi':NV (fun b0=>aA [] [] [b0] 0x814795ffa651bea50c3f25c0332eb56d016cd0aa67370f4dd6):=⟨_,by conv=>rhs;reduce⟩
noncomputable abbrev afc:XF:=ft_ixi'.1 CA
theorem Lg:aK Tryz.prog 59 afc=true:=by kernel_rfl
structure Gn where
 h:Value
 l:List Int
 x:Int
 i:Int
structure QL where
 z:Int
noncomputable def aeo:bM:=ce bQ 0 (fun p:Gn=>((.cons 8 (.sy (.int 0 p.i)) (.cons 7 (.sy (.int 0 (p.l.length:Int))) (.cons 3 (.ptr 0 0) (.cons 0 (.sy (.imm p.h 2 Int p.l am)) .nil)))),(.node .leaf (some (iC p.x)) .leaf),1)) (fun p=>p.l.length≤1000000∧0≤p.i∧p.i≤(p.l.length:Int)∧¬p.x∈p.l.take p.i.toNat) (fun p K=>ac (iP (¬p.x∈p.l) (K 2 .nil .leaf 0) true) (aj fun r:QL=>iP (p.x∈p.l∧r.z=((p.l.idxOf p.x:Nat):Int)) (K 1 (.cons 4 (.sy (.int 0 r.z)) .nil) .leaf 0) true))
theorem OT:bg Tryz.prog 19 0 aeo true 0 CA:=lL (nat:=TT) (fun p:Gn=>((p.l.length:Int) - p.i).toNat) cq (fun _ _ _ _=>rfl) fun p K hpre hK=>by
 dsimp only at hpre hK ⊢
 obtain⟨hK0,hKr0⟩:=ae hK
 have hK1:=hKr0
 obtain⟨g0,g1,g2,g3⟩:=hpre
 have yp {g:Prop} (h:g:=by first|(rw[List.take_of_length_le (by omega)]at g3;exact g3)|(rw[←hc]at hi;have h:=KL hi g3;exact⟨h.1,by omega⟩)|fail):g:=h
 have yb {g:Prop} (h:g:=by first|(refine⟨g0,by omega,by omega,?_⟩;rw[show(p.i+1).toNat=p.i.toNat+1 by omega];exact EE hi g3 hc)|fail):g:=h
 exact wz
structure ajh where
 h:Value
 l:List Int
 x:Int
structure aiU where
 z:Int
theorem adX:aB Tryz.prog 59 0 (aO (fun p:ajh=>([.sy (.imm p.h 2 Int p.l am),eu p.x],.leaf,0)) (fun p=>p.l.length≤1000000) (fun p K=>aj fun r:aiU=>iP ((r.z<0↔¬p.x∈p.l)∧(0≤r.z↔p.x∈p.l)∧(p.x∈p.l→r.z=((p.l.idxOf p.x:Nat):Int))∧ -1≤r.z∧r.z<(p.l.length:Int)) (K (.sy (.int 0 r.z)) .leaf 0) true)):=nF (nat:=TT) Lg (dC OT) fun p K hpre hK=>by
 dsimp only at hpre hK ⊢
 have h1:=hpre
 have yg {g:Prop} (h:g:=by first|(exact⟨h1,by omega,by omega,by simp⟩)|fail):g:=h
 have yp {g:Prop} (h:g:=by first|(first|exact Tu (by assumption)|exact KB (by assumption))|fail):g:=h
 exact wz
noncomputable def wl:NN:=bW TT adX [(0,23),(1,15)]
noncomputable def bd_l_ixp':NV (cS [] [] [] 0x16267d71afed926e667d047ac7634e1c526a3f7db696765606225ed4f51aaca8b9481ec69):=⟨_,by conv=>rhs;reduce⟩
noncomputable abbrev Cz:XC:=bd_l_ixp'.1
noncomputable def ft_ixp':NV (fun b0=>aA [] [] [b0] 0x116e2ad54be89d7837ec8c1356a230e680921ad67f7c75b3cf):=⟨_,by conv=>rhs;reduce⟩
noncomputable abbrev afb:XF:=ft_ixp'.1 Cz
theorem Lf:aK Tryz.prog 59 afb=true:=by kernel_rfl
structure Gm where
 l:List Int
 x:Int
 i:Int
structure QK where
 z:Int
noncomputable def aen:bM:=ce bQ 0 (fun p:Gm=>((.cons 8 (.sy (.int 0 p.i)) (.cons 7 (.sy (.int 0 (p.l.length:Int))) (.cons 3 (.ptr 1 0) (.cons 0 (.sy (.prow 0 p.l.length)) .nil)))),(.node (.node .leaf (some (iC p.x)) .leaf) (some (aD p.l)) .leaf),2)) (fun p=>p.l.length≤1000000∧0≤p.i∧p.i≤(p.l.length:Int)∧¬p.x∈p.l.take p.i.toNat) (fun p K=>ac (iP (¬p.x∈p.l) (K 2 .nil (.node .leaf (some (aD p.l)) .leaf) 1) true) (aj fun r:QK=>iP (p.x∈p.l∧r.z=((p.l.idxOf p.x:Nat):Int)) (K 1 (.cons 4 (.sy (.int 0 r.z)) .nil) (.node .leaf (some (aD p.l)) .leaf) 1) true))
theorem OS:bg Tryz.prog 19 1 aen true 0 Cz:=lL (nat:=wl) (fun p:Gm=>((p.l.length:Int) - p.i).toNat) cq (fun _ _ _ _=>rfl) fun p K hpre hK=>by
 dsimp only at hpre hK ⊢
 obtain⟨hK0,hKr0⟩:=ae hK
 have hK1:=hKr0
 obtain⟨g0,g1,g2,g3⟩:=hpre
 have yp {g:Prop} (h:g:=by first|(rw[List.take_of_length_le (by omega)]at g3;exact g3)|(rw[←hc]at hi;have h:=KL hi g3;exact⟨h.1,by omega⟩)|fail):g:=h
 have yb {g:Prop} (h:g:=by first|(refine⟨g0,by omega,by omega,?_⟩;rw[show(p.i+1).toNat=p.i.toNat+1 by omega];exact EE hi g3 hc)|fail):g:=h
 exact wz
structure ajg where
 l:List Int
 x:Int
structure aiT where
 z:Int
theorem adW:aB Tryz.prog 59 1 (aO (fun p:ajg=>([.sy (.prow 0 p.l.length),eu p.x],(.node .leaf (some (aD p.l)) .leaf),1)) (fun p=>p.l.length≤1000000) (fun p K=>aj fun r:aiT=>iP ((r.z<0↔¬p.x∈p.l)∧(0≤r.z↔p.x∈p.l)∧(p.x∈p.l→r.z=((p.l.idxOf p.x:Nat):Int))∧ -1≤r.z∧r.z<(p.l.length:Int)) (K (.sy (.int 0 r.z)) (.node .leaf (some (aD p.l)) .leaf) 1) true)):=nF (nat:=wl) Lf (dC OS) fun p K hpre hK=>by
 dsimp only at hpre hK ⊢
 have h1:=hpre
 have yg {g:Prop} (h:g:=by first|(exact⟨h1,by omega,by omega,by simp⟩)|fail):g:=h
 have yp {g:Prop} (h:g:=by first|(first|exact Tu (by assumption)|exact KB (by assumption))|fail):g:=h
 exact wz
noncomputable def EJ:NN:=bW wl adW [(0,25),(1,15)]
noncomputable def ft_cli':NV (fun e0=>aA [e0] [] [] 0x66135ca61c1bf5a1b7a50cbaff2ee5b9e5fe61b8f7708412cf):=⟨_,by conv=>rhs;reduce⟩
noncomputable abbrev afh:XF:=ft_cli'.1 (eB 52 2 am)
theorem yt:aK Tryz.prog 48 afh=true:=by kernel_rfl
structure ajt where
 h:Value
 l:List Int
structure ai4 where
 o:List Int
theorem ad3:aB Tryz.prog 48 0 (aO (fun p:ajt=>([.sy (.imm p.h 2 Int p.l am)],.leaf,0)) (fun p=>p.l.length≤1000000) (fun p K=>aj fun r:ai4=>iP (r.o=p.l∧r.o.length=p.l.length) (K (.sy (.prow 0 r.o.length)) (.node .leaf (some (aD r.o)) .leaf) 1) true)):=nE (nat:=EJ) yt fun p K hpre hK=>by
 dsimp only at hpre hK ⊢
 have h1:=hpre
 have nnc:=trivial
 have nnl:=trivial
 have yp {g:Prop} (h:g:=by first|(first|exact⟨rfl,rfl⟩|(have e:p.l=[]:=(by first|assumption|exact hi hc|(apply akG;exact hi hc));rw[e];exact⟨rfl,rfl⟩))|(first|exact⟨rfl,rfl⟩|(have e:p.l=[]:=(by first|assumption|exact hi hc1|(apply akG;exact hi hc1));rw[e];exact⟨rfl,rfl⟩))|fail):g:=h
 exact wz
noncomputable def EM:NN:=bW EJ ad3 [(0,23)]
structure ajs where
 l:List Int
structure ai3 where
 o:List Int
theorem ad2:aB Tryz.prog 48 1 (aO (fun p:ajs=>([.sy (.prow 0 p.l.length)],(.node .leaf (some (aD p.l)) .leaf),1)) (fun p=>p.l.length≤1000000) (fun p K=>aj fun r:ai3=>iP (r.o=p.l∧r.o.length=p.l.length) (K (.sy (.prow 1 r.o.length)) (.node (.node .leaf (some (aD r.o)) .leaf) (some (aD p.l)) .leaf) 2) true)):=nE (nat:=EM) yt fun p K hpre hK=>by
 dsimp only at hpre hK ⊢
 have h1:=hpre
 have nnc:=trivial
 have nnl:=trivial
 have yp {g:Prop} (h:g:=by first|(first|exact⟨rfl,rfl⟩|(have e:p.l=[]:=(by first|assumption|exact hi hc|(apply akG;exact hi hc));rw[e];exact⟨rfl,rfl⟩))|(first|exact⟨rfl,rfl⟩|(have e:p.l=[]:=(by first|assumption|exact hi hc1|(apply akG;exact hi hc1));rw[e];exact⟨rfl,rfl⟩))|fail):g:=h
 exact wz
noncomputable def wn:NN:=bW EM ad2 [(0,25)]
noncomputable def bd_l_xfin':NV (cS [] [] [] 0xc11db15d74d117caae8030cbf1d9ad2ddb35d0845b34ea18744ea40191553cde33a1741feade9ed3):=⟨_,by conv=>rhs;reduce⟩
noncomputable abbrev qy:XC:=bd_l_xfin'.1
noncomputable def ft_xfin':NV (fun b0=>aA [] [] [b0] 0x59226b6456853ec2fc0b82194aa084161f29faa83491):=⟨_,by conv=>rhs;reduce⟩
noncomputable abbrev Xz:XF:=ft_xfin'.1 qy
theorem HF:aK Tryz.prog 112 Xz=true:=by kernel_rfl
structure CX where
 l:List Int
 N:Int
 mh:Value
 m:List Int
 i:Int
structure Mi where
 z:Int
noncomputable def WR:bM:=ce bQ 0 (fun p:CX=>((.cons 8 (.sy (.int 0 p.i)) (.cons 7 (.sy (.int 0 (p.l.length:Int))) (.cons 1 (.fn 81 [.ptr 1 0]) (.cons 0 (.sy (.prow 0 p.l.length)) .nil)))),(.node (.node .leaf (some (cU 62 2)) .leaf) (some (aD p.l)) (.node .leaf (some (cX p.N p.mh p.m)) .leaf)),3)) (fun p=>p.l.length≤1000000∧p.m.length≤1000000∧0≤p.i∧p.i≤(p.l.length:Int)∧(∀x∈p.l.take p.i.toNat,¬(¬x∈p.m))) (fun p K=>ac (iP (∀x∈p.l,¬(¬x∈p.m)) (K 2 .nil (.node (.node .leaf (some (cU 62 2)) .leaf) (some (aD p.l)) (.node .leaf (some (cX p.N p.mh p.m)) .leaf)) 3) true) (aj fun r:Mi=>iP (0≤r.z∧r.z<(p.l.length:Int)∧(∀x∈p.l.take r.z.toNat,¬(¬x∈p.m))∧∀x,p.l[r.z.toNat]?=some x→¬x∈p.m) (K 1 (.cons 4 (.sy (.int 0 r.z)) .nil) (.node (.node .leaf (some (cU 62 2)) .leaf) (some (aD p.l)) (.node .leaf (some (cX p.N p.mh p.m)) .leaf)) 3) true))
theorem Kk:bg Tryz.prog 19 3 WR true 0 qy:=lL (nat:=wn) (fun p:CX=>((p.l.length:Int) - p.i).toNat) cq (fun _ _ _ _=>rfl) fun p K hpre hK=>by
 dsimp only at hpre hK ⊢
 obtain⟨hK0,hKr0⟩:=ae hK
 have hK1:=hKr0
 obtain⟨g0,g00,g1,g2,g3⟩:=hpre
 have nnx:=trivial
 have nnh:=trivial
 have nnq:=trivial
 have yp {g:Prop} (h:g:=by first|(rw[List.take_of_length_le (by omega)]at g3;exact g3)|(have hD:¬x1∈p.m:=(by first|assumption|(simp_all;done)|(intro hq;simp_all;done)|(intro hq;exact(by assumption:∀y:Int,y∈p.gt→¬x1=y) _ hq rfl));exact⟨g1,by omega,g3,fun x hx=>by rw[hi1]at hx;injection hx with hx;subst hx;exact hD⟩)|fail):g:=h
 have yb {g:Prop} (h:g:=by first|(refine⟨g0,g00,by omega,by omega,?_⟩;rw[show(p.i+1).toNat=p.i.toNat+1 by omega,List.take_add_one,hi1];have hD:¬(¬x1∈p.m):=(by first|assumption|(simp_all;done)|(intro hq;simp_all;done)|(intro hq;exact(by assumption:∀y:Int,y∈p.gt→¬x1=y) _ hq rfl));intro x hx;rcases akz.1 hx with hx|hx;exact g3 x hx;simp only[Option.toList,List.mem_singleton]at hx;subst hx;exact hD)|fail):g:=h
 exact wz
structure ag8 where
 l:List Int
 N:Int
 mh:Value
 m:List Int
structure agi where
 z:Int
theorem VL:aB Tryz.prog 112 3 (aO (fun p:ag8=>([.sy (.prow 0 p.l.length),.fn 81 [.ptr 1 0]],(.node (.node .leaf (some (cU 62 2)) .leaf) (some (aD p.l)) (.node .leaf (some (cX p.N p.mh p.m)) .leaf)),3)) (fun p=>p.l.length≤1000000∧p.m.length≤1000000) (fun p K=>aj fun r:agi=>iP (-1≤r.z∧(r.z= -1→∀x∈p.l,¬(¬x∈p.m))∧(¬r.z= -1→0≤r.z∧r.z<(p.l.length:Int)∧(∀x∈p.l.take r.z.toNat,¬(¬x∈p.m))∧∀x,p.l[r.z.toNat]?=some x→¬x∈p.m)) (K (.sy (.int 0 r.z)) (.node (.node .leaf (some (cU 62 2)) .leaf) (some (aD p.l)) (.node .leaf (some (cX p.N p.mh p.m)) .leaf)) 3) true)):=nF (nat:=wn) HF (dC Kk) fun p K hpre hK=>by
 dsimp only at hpre hK ⊢
 obtain⟨h1,h2⟩:=hpre
 have yg {g:Prop} (h:g:=by first|(exact⟨h1,h2,by omega,by omega,by simp⟩)|fail):g:=h
 have yp {g:Prop} (h:g:=by first|(first|exact⟨by decide,fun _=>by assumption,fun h=>absurd rfl h⟩|exact⟨by omega,fun h=>by omega,fun _=>by assumption⟩)|fail):g:=h
 exact wz
noncomputable def sY:NN:=fK wn VL [(0,25),(1,13)] (fun us M=>Nat.beq (xi us 1 M) 62)
noncomputable def bd_l_dfin':NV (cS [] [] [] 0x2d46111fa13ad81bd8a687cf8373e5f2f2ac7cddf45975b03912d51aaa9f45160eec3144613dd068431a648afdeaad6a84be06d545663e2712a10dcc8):=⟨_,by conv=>rhs;reduce⟩
noncomputable abbrev qB:XC:=bd_l_dfin'.1
noncomputable def ft_dfin':NV (fun b0=>aA [] [] [b0] 0x9471f25779f90c1235e95ea2c3d072f023bf1bc2327013236641868214e6558eaf825f891540cef7864455de11da8b119e772e1d93):=⟨_,by conv=>rhs;reduce⟩
noncomputable abbrev Ya:XF:=ft_dfin'.1 qB
theorem Ia:aK Tryz.prog 80 Ya=true:=by kernel_rfl
structure De where
 l:List Int
 N:Int
 mh:Value
 m:List Int
 o:List Int
 i:Int
 j:Int
structure QO where
 o:List Int
 i:Int
noncomputable def WT:bM:=ce bQ 0 (fun p:De=>((.cons 6 (.sy (.int 0 p.j)) (.cons 5 (.sy (.int 0 p.i)) (.cons 1 (.fn 81 [.ptr 1 0]) (.cons 0 (.sy (.prow 0 p.l.length)) .nil)))),(.node (.node .leaf (some (cU 62 2)) .leaf) (some (aD p.o)) (.node .leaf (some (cX p.N p.mh p.m)) .leaf)),3)) (fun p=>p.l.length≤1000000∧p.m.length≤1000000∧0≤p.i∧p.i≤p.j∧p.j≤(p.l.length:Int)∧p.o.length=p.l.length∧p.o.take p.i.toNat=(p.l.take p.j.toNat).filter (fun x=>decide (x∈p.m))∧p.o.drop p.j.toNat=p.l.drop p.j.toNat) (fun p K=>aj fun r:QO=>iP (0≤r.i∧r.i≤(p.l.length:Int)∧r.o.length=p.l.length∧r.o.take r.i.toNat=p.l.filter (fun x=>decide (x∈p.m))) (K 2 (.cons 5 (.sy (.int 0 r.i)) (.cons 0 (.sy (.prow 0 p.l.length)) .nil)) (.node (.node .leaf (some (cU 62 2)) .leaf) (some (aD r.o)) (.node .leaf (some (cX p.N p.mh p.m)) .leaf)) 3) true)
theorem Kt:bg Tryz.prog 42 3 WT true 0 qB:=lL (nat:=sY) (fun p:De=>((p.l.length:Int) - p.j).toNat) cq (fun _ _ _ _=>rfl) fun p K hpre hK=>by
 dsimp only at hpre hK ⊢
 obtain⟨g0,g00,g1,g2,g3,g4,g5,g6⟩:=hpre
 have nnx:=trivial
 have nnh:=trivial
 have nnq:=trivial
 have yp {g:Prop} (h:g:=by first|(rw[List.take_of_length_le (show p.l.length≤p.j.toNat by omega)]at g5;exact⟨g1,by omega,g4,g5⟩)|fail):g:=h
 have yb {g:Prop} (h:g:=by first|(first|exact⟨g0,g00,ri g1 g2 g3 g4 g5 g6 (by omega) (by assumption) (by have hD:¬(¬x1∈p.m):=(by first|assumption|(simp_all;done)|(intro hq;simp_all;done)|(intro hq;exact(by assumption:∀y:Int,y∈p.gt→¬x1=y) _ hq rfl));simpa using hD)⟩|exact⟨g0,g00,rj g1 g2 g3 g4 g5 g6 (by omega) hi1 (by have hD:¬x1∈p.m:=(by first|assumption|(simp_all;done)|(intro hq;simp_all;done)|(intro hq;exact(by assumption:∀y:Int,y∈p.gt→¬x1=y) _ hq rfl));simpa using hD)⟩)|fail):g:=h
 have yq {g:Prop} (h:g:=by first|(refine wX x1 (by first|exact sd|exact ys) ?_;exact wz)|(exact jS (.mk p.l ..))|fail):g:=h
 exact wz
structure ahM where
 l:List Int
 N:Int
 mh:Value
 m:List Int
structure agY where
 o:List Int
theorem Wz:aB Tryz.prog 80 3 (aO (fun p:ahM=>([.sy (.prow 0 p.l.length),.fn 81 [.ptr 1 0]],(.node (.node .leaf (some (cU 62 2)) .leaf) (some (aD p.l)) (.node .leaf (some (cX p.N p.mh p.m)) .leaf)),3)) (fun p=>p.l.length≤1000000∧p.m.length≤1000000) (fun p K=>aj fun r:agY=>iP (r.o=p.l.filter (fun x=>decide (x∈p.m))∧r.o.length≤p.l.length) (K (.sy (.prow 0 r.o.length)) (.node (.node .leaf (some (cU 62 2)) .leaf) (some (aD r.o)) (.node .leaf (some (cX p.N p.mh p.m)) .leaf)) 3) true)):=nF (nat:=sY) Ia (dC Kt) fun p K hpre hK=>by
 dsimp only at hpre hK ⊢
 obtain⟨h1,h2⟩:=hpre
 have ys {g:Prop} (h:g:=by first|(first|omega|(simp;done)|(simp;omega)|(simp only[akA];omega);done)|(exact⟨rfl,rfl,by first|omega|(simp only[akA];omega)⟩;done)|fail):g:=h
 have yg {g:Prop} (h:g:=by first|(first|omega|assumption|exact⟨by omega,by omega⟩)|(have hz:=(hi.2.2 (by assumption));exact⟨h1,h2,oT (fun x=>by simp) hz⟩)|fail):g:=h
 have yp {g:Prop} (h:g:=by first|(first|exact vd (fun x=>by simp) (hi.2.1 (by assumption))|exact vb (by assumption))|fail):g:=h
 have yq {g:Prop} (h:g:=by first|(refine cn (.mk p.l ..) (h:= ?_);exact wo)|fail):g:=h
 exact wz
noncomputable def te:NN:=fK sY Wz [(0,25),(1,13)] (fun us M=>Nat.beq (xi us 1 M) 62)
noncomputable def bd_l_xfout':NV (cS [] [] [] 0x6ffff681cbbe03460927abc52b9efee9a1c48c4a38c9f5f58da4620335f73f1a357d65b1b4856c78):=⟨_,by conv=>rhs;reduce⟩
noncomputable abbrev oX:XC:=bd_l_xfout'.1
noncomputable def ft_xfout':NV (fun b0=>aA [] [] [b0] 0x32235c6870aaf34dce550f7ca9f0dbe0834bc51cb8b1):=⟨_,by conv=>rhs;reduce⟩
noncomputable abbrev Pg:XF:=ft_xfout'.1 oX
theorem Dl:aK Tryz.prog 112 Pg=true:=by kernel_rfl
structure yO where
 l:List Int
 N:Int
 mh:Value
 m:List Int
 i:Int
structure IK where
 z:Int
noncomputable def OA:bM:=ce bQ 0 (fun p:yO=>((.cons 8 (.sy (.int 0 p.i)) (.cons 7 (.sy (.int 0 (p.l.length:Int))) (.cons 1 (.fn 81 [.ptr 1 0]) (.cons 0 (.sy (.prow 0 p.l.length)) .nil)))),(.node (.node (.node .leaf (some (cX p.N p.mh p.m)) .leaf) (some (cU 64 2)) .leaf) (some (aD p.l)) (.node .leaf (some (cU 62 3)) .leaf)),4)) (fun p=>p.l.length≤1000000∧p.m.length≤1000000∧0≤p.i∧p.i≤(p.l.length:Int)∧(∀x∈p.l.take p.i.toNat,¬(x∈p.m))) (fun p K=>ac (iP (∀x∈p.l,¬(x∈p.m)) (K 2 .nil (.node (.node (.node .leaf (some (cX p.N p.mh p.m)) .leaf) (some (cU 64 2)) .leaf) (some (aD p.l)) (.node .leaf (some (cU 62 3)) .leaf)) 4) true) (aj fun r:IK=>iP (0≤r.z∧r.z<(p.l.length:Int)∧(∀x∈p.l.take r.z.toNat,¬(x∈p.m))∧∀x,p.l[r.z.toNat]?=some x→x∈p.m) (K 1 (.cons 4 (.sy (.int 0 r.z)) .nil) (.node (.node (.node .leaf (some (cX p.N p.mh p.m)) .leaf) (some (cU 64 2)) .leaf) (some (aD p.l)) (.node .leaf (some (cU 62 3)) .leaf)) 4) true))
theorem Hs:bg Tryz.prog 19 4 OA true 0 oX:=lL (nat:=te) (fun p:yO=>((p.l.length:Int) - p.i).toNat) cq (fun _ _ _ _=>rfl) fun p K hpre hK=>by
 dsimp only at hpre hK ⊢
 obtain⟨hK0,hKr0⟩:=ae hK
 have hK1:=hKr0
 obtain⟨g0,g00,g1,g2,g3⟩:=hpre
 have nnx:=trivial
 have nnh:=trivial
 have nnq:=trivial
 have yp {g:Prop} (h:g:=by first|(rw[List.take_of_length_le (by omega)]at g3;exact g3)|(have hD:x1∈p.m:=(by first|assumption|(simp_all;done)|(intro hq;simp_all;done)|(intro hq;exact(by assumption:∀y:Int,y∈p.gt→¬x1=y) _ hq rfl));exact⟨g1,by omega,g3,fun x hx=>by rw[hi1]at hx;injection hx with hx;subst hx;exact hD⟩)|fail):g:=h
 have yb {g:Prop} (h:g:=by first|(refine⟨g0,g00,by omega,by omega,?_⟩;rw[show(p.i+1).toNat=p.i.toNat+1 by omega,List.take_add_one,hi1];have hD:¬(x1∈p.m):=(by first|assumption|(simp_all;done)|(intro hq;simp_all;done)|(intro hq;exact(by assumption:∀y:Int,y∈p.gt→¬x1=y) _ hq rfl));intro x hx;rcases akz.1 hx with hx|hx;exact g3 x hx;simp only[Option.toList,List.mem_singleton]at hx;subst hx;exact hD)|fail):g:=h
 exact wz
structure ZY where
 l:List Int
 N:Int
 mh:Value
 m:List Int
structure Zb where
 z:Int
theorem NE:aB Tryz.prog 112 4 (aO (fun p:ZY=>([.sy (.prow 0 p.l.length),.fn 81 [.ptr 1 0]],(.node (.node (.node .leaf (some (cX p.N p.mh p.m)) .leaf) (some (cU 64 2)) .leaf) (some (aD p.l)) (.node .leaf (some (cU 62 3)) .leaf)),4)) (fun p=>p.l.length≤1000000∧p.m.length≤1000000) (fun p K=>aj fun r:Zb=>iP (-1≤r.z∧(r.z= -1→∀x∈p.l,¬(x∈p.m))∧(¬r.z= -1→0≤r.z∧r.z<(p.l.length:Int)∧(∀x∈p.l.take r.z.toNat,¬(x∈p.m))∧∀x,p.l[r.z.toNat]?=some x→x∈p.m)) (K (.sy (.int 0 r.z)) (.node (.node (.node .leaf (some (cX p.N p.mh p.m)) .leaf) (some (cU 64 2)) .leaf) (some (aD p.l)) (.node .leaf (some (cU 62 3)) .leaf)) 4) true)):=nF (nat:=te) Dl (dC Hs) fun p K hpre hK=>by
 dsimp only at hpre hK ⊢
 obtain⟨h1,h2⟩:=hpre
 have yg {g:Prop} (h:g:=by first|(exact⟨h1,h2,by omega,by omega,by simp⟩)|fail):g:=h
 have yp {g:Prop} (h:g:=by first|(first|exact⟨by decide,fun _=>by assumption,fun h=>absurd rfl h⟩|exact⟨by omega,fun h=>by omega,fun _=>by assumption⟩)|fail):g:=h
 exact wz
noncomputable def pN:NN:=fK te NE [(0,25),(1,13)] (fun us M=>Nat.beq (xi us 1 M) 64)
noncomputable def bd_l_dfout':NV (cS [] [] [] 0x19957440f80bffeff5c434c61d010d8d62acc5ea3995fdb051b75f7e426a850f2a454fbdbf27e14f6ecbf2de56b40ef708322d202eab7319b7e4e5a5d):=⟨_,by conv=>rhs;reduce⟩
noncomputable abbrev oY:XC:=bd_l_dfout'.1
noncomputable def ft_dfout':NV (fun b0=>aA [] [] [b0] 0x53801851349c16ca3e53453b8e2540a7141b7f9d3c67fdfb6bbb25ad6893c949c2c64f335a9d11b400786fe9125159212d8c58b00b):=⟨_,by conv=>rhs;reduce⟩
noncomputable abbrev PK:XF:=ft_dfout'.1 oY
theorem DO:aK Tryz.prog 80 PK=true:=by kernel_rfl
structure yR where
 l:List Int
 N:Int
 mh:Value
 m:List Int
 o:List Int
 i:Int
 j:Int
structure Mj where
 o:List Int
 i:Int
noncomputable def OH:bM:=ce bQ 0 (fun p:yR=>((.cons 6 (.sy (.int 0 p.j)) (.cons 5 (.sy (.int 0 p.i)) (.cons 1 (.fn 81 [.ptr 1 0]) (.cons 0 (.sy (.prow 0 p.l.length)) .nil)))),(.node (.node (.node .leaf (some (cX p.N p.mh p.m)) .leaf) (some (cU 64 2)) .leaf) (some (aD p.o)) (.node .leaf (some (cU 62 3)) .leaf)),4)) (fun p=>p.l.length≤1000000∧p.m.length≤1000000∧0≤p.i∧p.i≤p.j∧p.j≤(p.l.length:Int)∧p.o.length=p.l.length∧p.o.take p.i.toNat=(p.l.take p.j.toNat).filter (fun x=>decide (¬x∈p.m))∧p.o.drop p.j.toNat=p.l.drop p.j.toNat) (fun p K=>aj fun r:Mj=>iP (0≤r.i∧r.i≤(p.l.length:Int)∧r.o.length=p.l.length∧r.o.take r.i.toNat=p.l.filter (fun x=>decide (¬x∈p.m))) (K 2 (.cons 5 (.sy (.int 0 r.i)) (.cons 0 (.sy (.prow 0 p.l.length)) .nil)) (.node (.node (.node .leaf (some (cX p.N p.mh p.m)) .leaf) (some (cU 64 2)) .leaf) (some (aD r.o)) (.node .leaf (some (cU 62 3)) .leaf)) 4) true)
theorem Hv:bg Tryz.prog 42 4 OH true 0 oY:=lL (nat:=pN) (fun p:yR=>((p.l.length:Int) - p.j).toNat) cq (fun _ _ _ _=>rfl) fun p K hpre hK=>by
 dsimp only at hpre hK ⊢
 obtain⟨g0,g00,g1,g2,g3,g4,g5,g6⟩:=hpre
 have nnx:=trivial
 have nnh:=trivial
 have nnq:=trivial
 have yp {g:Prop} (h:g:=by first|(rw[List.take_of_length_le (show p.l.length≤p.j.toNat by omega)]at g5;exact⟨g1,by omega,g4,g5⟩)|fail):g:=h
 have yb {g:Prop} (h:g:=by first|(first|exact⟨g0,g00,ri g1 g2 g3 g4 g5 g6 (by omega) (by assumption) (by have hD:¬(x1∈p.m):=(by first|assumption|(simp_all;done)|(intro hq;simp_all;done)|(intro hq;exact(by assumption:∀y:Int,y∈p.gt→¬x1=y) _ hq rfl));simpa using hD)⟩|exact⟨g0,g00,rj g1 g2 g3 g4 g5 g6 (by omega) hi1 (by have hD:x1∈p.m:=(by first|assumption|(simp_all;done)|(intro hq;simp_all;done)|(intro hq;exact(by assumption:∀y:Int,y∈p.gt→¬x1=y) _ hq rfl));simpa using hD)⟩)|fail):g:=h
 have yq {g:Prop} (h:g:=by first|(refine wX x1 (by first|exact sd|exact ys) ?_;exact wz)|(exact jS (.mk p.l ..))|fail):g:=h
 exact wz
structure aaz where
 l:List Int
 N:Int
 mh:Value
 m:List Int
structure ZJ where
 o:List Int
theorem Oc:aB Tryz.prog 80 4 (aO (fun p:aaz=>([.sy (.prow 0 p.l.length),.fn 81 [.ptr 1 0]],(.node (.node (.node .leaf (some (cX p.N p.mh p.m)) .leaf) (some (cU 64 2)) .leaf) (some (aD p.l)) (.node .leaf (some (cU 62 3)) .leaf)),4)) (fun p=>p.l.length≤1000000∧p.m.length≤1000000) (fun p K=>aj fun r:ZJ=>iP (r.o=p.l.filter (fun x=>decide (¬x∈p.m))∧r.o.length≤p.l.length) (K (.sy (.prow 0 r.o.length)) (.node (.node (.node .leaf (some (cX p.N p.mh p.m)) .leaf) (some (cU 64 2)) .leaf) (some (aD r.o)) (.node .leaf (some (cU 62 3)) .leaf)) 4) true)):=nF (nat:=pN) DO (dC Hv) fun p K hpre hK=>by
 dsimp only at hpre hK ⊢
 obtain⟨h1,h2⟩:=hpre
 have ys {g:Prop} (h:g:=by first|(first|omega|(simp;done)|(simp;omega)|(simp only[akA];omega);done)|(exact⟨rfl,rfl,by first|omega|(simp only[akA];omega)⟩;done)|fail):g:=h
 have yg {g:Prop} (h:g:=by first|(first|omega|assumption|exact⟨by omega,by omega⟩)|(have hz:=(hi.2.2 (by assumption));exact⟨h1,h2,oT (fun x=>by simp) hz⟩)|fail):g:=h
 have yp {g:Prop} (h:g:=by first|(first|exact vd (fun x=>by simp) (hi.2.1 (by assumption))|exact vb (by assumption))|fail):g:=h
 have yq {g:Prop} (h:g:=by first|(refine cn (.mk p.l ..) (h:= ?_);exact wo)|fail):g:=h
 exact wz
noncomputable def pT:NN:=fK pN Oc [(0,25),(1,13)] (fun us M=>Nat.beq (xi us 1 M) 64)
noncomputable abbrev vo:XC:=qy
noncomputable def ft_xfold':NV (fun b0=>aA [] [] [b0] 0x59226b6456853ec2fc0b82194aa084161f29faa83491):=⟨_,by conv=>rhs;reduce⟩
noncomputable abbrev Ph:XF:=ft_xfold'.1 vo
theorem Dm:aK Tryz.prog 112 Ph=true:=by kernel_rfl
structure yP where
 l:List Int
 N:Int
 mh:Value
 m:List Int
 i:Int
structure IM where
 z:Int
noncomputable def OC:bM:=ce bQ 0 (fun p:yP=>((.cons 8 (.sy (.int 0 p.i)) (.cons 7 (.sy (.int 0 (p.l.length:Int))) (.cons 1 (.fn 81 [.ptr 1 0]) (.cons 0 (.sy (.prow 0 p.l.length)) .nil)))),(.node (.node .leaf (some (cU 164 2)) .leaf) (some (aD p.l)) (.node .leaf (some (cX p.N p.mh p.m)) .leaf)),3)) (fun p=>p.l.length≤1000000∧p.m.length≤1000000∧0≤p.i∧p.i≤(p.l.length:Int)∧(∀x∈p.l.take p.i.toNat,¬(x∈p.m))) (fun p K=>ac (iP (∀x∈p.l,¬(x∈p.m)) (K 2 .nil (.node (.node .leaf (some (cU 164 2)) .leaf) (some (aD p.l)) (.node .leaf (some (cX p.N p.mh p.m)) .leaf)) 3) true) (aj fun r:IM=>iP (0≤r.z∧r.z<(p.l.length:Int)∧(∀x∈p.l.take r.z.toNat,¬(x∈p.m))∧∀x,p.l[r.z.toNat]?=some x→x∈p.m) (K 1 (.cons 4 (.sy (.int 0 r.z)) .nil) (.node (.node .leaf (some (cU 164 2)) .leaf) (some (aD p.l)) (.node .leaf (some (cX p.N p.mh p.m)) .leaf)) 3) true))
theorem Ht:bg Tryz.prog 19 3 OC true 0 vo:=lL (nat:=pT) (fun p:yP=>((p.l.length:Int) - p.i).toNat) cq (fun _ _ _ _=>rfl) fun p K hpre hK=>by
 dsimp only at hpre hK ⊢
 obtain⟨hK0,hKr0⟩:=ae hK
 have hK1:=hKr0
 obtain⟨g0,g00,g1,g2,g3⟩:=hpre
 have nnx:=trivial
 have nnh:=trivial
 have nnq:=trivial
 have yp {g:Prop} (h:g:=by first|(rw[List.take_of_length_le (by omega)]at g3;exact g3)|(have hD:x1∈p.m:=(by first|assumption|(simp_all;done)|(intro hq;simp_all;done)|(intro hq;exact(by assumption:∀y:Int,y∈p.gt→¬x1=y) _ hq rfl));exact⟨g1,by omega,g3,fun x hx=>by rw[hi1]at hx;injection hx with hx;subst hx;exact hD⟩)|fail):g:=h
 have yb {g:Prop} (h:g:=by first|(refine⟨g0,g00,by omega,by omega,?_⟩;rw[show(p.i+1).toNat=p.i.toNat+1 by omega,List.take_add_one,hi1];have hD:¬(x1∈p.m):=(by first|assumption|(simp_all;done)|(intro hq;simp_all;done)|(intro hq;exact(by assumption:∀y:Int,y∈p.gt→¬x1=y) _ hq rfl));intro x hx;rcases akz.1 hx with hx|hx;exact g3 x hx;simp only[Option.toList,List.mem_singleton]at hx;subst hx;exact hD)|fail):g:=h
 exact wz
structure ZZ where
 l:List Int
 N:Int
 mh:Value
 m:List Int
structure Zc where
 z:Int
theorem NF:aB Tryz.prog 112 3 (aO (fun p:ZZ=>([.sy (.prow 0 p.l.length),.fn 81 [.ptr 1 0]],(.node (.node .leaf (some (cU 164 2)) .leaf) (some (aD p.l)) (.node .leaf (some (cX p.N p.mh p.m)) .leaf)),3)) (fun p=>p.l.length≤1000000∧p.m.length≤1000000) (fun p K=>aj fun r:Zc=>iP (-1≤r.z∧(r.z= -1→∀x∈p.l,¬(x∈p.m))∧(¬r.z= -1→0≤r.z∧r.z<(p.l.length:Int)∧(∀x∈p.l.take r.z.toNat,¬(x∈p.m))∧∀x,p.l[r.z.toNat]?=some x→x∈p.m)) (K (.sy (.int 0 r.z)) (.node (.node .leaf (some (cU 164 2)) .leaf) (some (aD p.l)) (.node .leaf (some (cX p.N p.mh p.m)) .leaf)) 3) true)):=nF (nat:=pT) Dm (dC Ht) fun p K hpre hK=>by
 dsimp only at hpre hK ⊢
 obtain⟨h1,h2⟩:=hpre
 have yg {g:Prop} (h:g:=by first|(exact⟨h1,h2,by omega,by omega,by simp⟩)|fail):g:=h
 have yp {g:Prop} (h:g:=by first|(first|exact⟨by decide,fun _=>by assumption,fun h=>absurd rfl h⟩|exact⟨by omega,fun h=>by omega,fun _=>by assumption⟩)|fail):g:=h
 exact wz
noncomputable def pO:NN:=fK pT NF [(0,25),(1,13)] (fun us M=>Nat.beq (xi us 1 M) 164)
noncomputable abbrev vq:XC:=qB
noncomputable def ft_dfold':NV (fun b0=>aA [] [] [b0] 0x9471f25779f90c1235e95ea2c3d072f023bf1bc2327013236641868214e6558eaf825f891540cef7864455de11da8b119e772e1d93):=⟨_,by conv=>rhs;reduce⟩
noncomputable abbrev PM:XF:=ft_dfold'.1 vq
theorem DP:aK Tryz.prog 80 PM=true:=by kernel_rfl
structure yS where
 l:List Int
 N:Int
 mh:Value
 m:List Int
 o:List Int
 i:Int
 j:Int
structure Mk where
 o:List Int
 i:Int
noncomputable def OI:bM:=ce bQ 0 (fun p:yS=>((.cons 6 (.sy (.int 0 p.j)) (.cons 5 (.sy (.int 0 p.i)) (.cons 1 (.fn 81 [.ptr 1 0]) (.cons 0 (.sy (.prow 0 p.l.length)) .nil)))),(.node (.node .leaf (some (cU 164 2)) .leaf) (some (aD p.o)) (.node .leaf (some (cX p.N p.mh p.m)) .leaf)),3)) (fun p=>p.l.length≤1000000∧p.m.length≤1000000∧0≤p.i∧p.i≤p.j∧p.j≤(p.l.length:Int)∧p.o.length=p.l.length∧p.o.take p.i.toNat=(p.l.take p.j.toNat).filter (fun x=>decide (¬x∈p.m))∧p.o.drop p.j.toNat=p.l.drop p.j.toNat) (fun p K=>aj fun r:Mk=>iP (0≤r.i∧r.i≤(p.l.length:Int)∧r.o.length=p.l.length∧r.o.take r.i.toNat=p.l.filter (fun x=>decide (¬x∈p.m))) (K 2 (.cons 5 (.sy (.int 0 r.i)) (.cons 0 (.sy (.prow 0 p.l.length)) .nil)) (.node (.node .leaf (some (cU 164 2)) .leaf) (some (aD r.o)) (.node .leaf (some (cX p.N p.mh p.m)) .leaf)) 3) true)
theorem Hw:bg Tryz.prog 42 3 OI true 0 vq:=lL (nat:=pO) (fun p:yS=>((p.l.length:Int) - p.j).toNat) cq (fun _ _ _ _=>rfl) fun p K hpre hK=>by
 dsimp only at hpre hK ⊢
 obtain⟨g0,g00,g1,g2,g3,g4,g5,g6⟩:=hpre
 have nnx:=trivial
 have nnh:=trivial
 have nnq:=trivial
 have yp {g:Prop} (h:g:=by first|(rw[List.take_of_length_le (show p.l.length≤p.j.toNat by omega)]at g5;exact⟨g1,by omega,g4,g5⟩)|fail):g:=h
 have yb {g:Prop} (h:g:=by first|(first|exact⟨g0,g00,ri g1 g2 g3 g4 g5 g6 (by omega) (by assumption) (by have hD:¬(x1∈p.m):=(by first|assumption|(simp_all;done)|(intro hq;simp_all;done)|(intro hq;exact(by assumption:∀y:Int,y∈p.gt→¬x1=y) _ hq rfl));simpa using hD)⟩|exact⟨g0,g00,rj g1 g2 g3 g4 g5 g6 (by omega) hi1 (by have hD:x1∈p.m:=(by first|assumption|(simp_all;done)|(intro hq;simp_all;done)|(intro hq;exact(by assumption:∀y:Int,y∈p.gt→¬x1=y) _ hq rfl));simpa using hD)⟩)|fail):g:=h
 have yq {g:Prop} (h:g:=by first|(refine wX x1 (by first|exact sd|exact ys) ?_;exact wz)|(exact jS (.mk p.l ..))|fail):g:=h
 exact wz
structure aaA where
 l:List Int
 N:Int
 mh:Value
 m:List Int
structure ZK where
 o:List Int
theorem Od:aB Tryz.prog 80 3 (aO (fun p:aaA=>([.sy (.prow 0 p.l.length),.fn 81 [.ptr 1 0]],(.node (.node .leaf (some (cU 164 2)) .leaf) (some (aD p.l)) (.node .leaf (some (cX p.N p.mh p.m)) .leaf)),3)) (fun p=>p.l.length≤1000000∧p.m.length≤1000000) (fun p K=>aj fun r:ZK=>iP (r.o=p.l.filter (fun x=>decide (¬x∈p.m))∧r.o.length≤p.l.length) (K (.sy (.prow 0 r.o.length)) (.node (.node .leaf (some (cU 164 2)) .leaf) (some (aD r.o)) (.node .leaf (some (cX p.N p.mh p.m)) .leaf)) 3) true)):=nF (nat:=pO) DP (dC Hw) fun p K hpre hK=>by
 dsimp only at hpre hK ⊢
 obtain⟨h1,h2⟩:=hpre
 have ys {g:Prop} (h:g:=by first|(first|omega|(simp;done)|(simp;omega)|(simp only[akA];omega);done)|(exact⟨rfl,rfl,by first|omega|(simp only[akA];omega)⟩;done)|fail):g:=h
 have yg {g:Prop} (h:g:=by first|(first|omega|assumption|exact⟨by omega,by omega⟩)|(have hz:=(hi.2.2 (by assumption));exact⟨h1,h2,oT (fun x=>by simp) hz⟩)|fail):g:=h
 have yp {g:Prop} (h:g:=by first|(first|exact vd (fun x=>by simp) (hi.2.1 (by assumption))|exact vb (by assumption))|fail):g:=h
 have yq {g:Prop} (h:g:=by first|(refine cn (.mk p.l ..) (h:= ?_);exact wo)|fail):g:=h
 exact wz
noncomputable def pU:NN:=fK pO Od [(0,25),(1,13)] (fun us M=>Nat.beq (xi us 1 M) 164)
noncomputable abbrev vp:XC:=oX
noncomputable def ft_xfgot':NV (fun b0=>aA [] [] [b0] 0x32235c6870aaf34dce550f7ca9f0dbe0834bc51cb8b1):=⟨_,by conv=>rhs;reduce⟩
noncomputable abbrev Pi:XF:=ft_xfgot'.1 vp
theorem Dn:aK Tryz.prog 112 Pi=true:=by kernel_rfl
structure yQ where
 l:List Int
 q:Nat→Value
 mh:Value
 m:List Int
 ph:Int
 gt:List Int
 i:Int
structure IP where
 z:Int
noncomputable def OD:bM:=ce bQ 0 (fun p:yQ=>((.cons 8 (.sy (.int 0 p.i)) (.cons 7 (.sy (.int 0 (p.l.length:Int))) (.cons 1 (.fn 124 [.ptr 1 0]) (.cons 0 (.sy (.prow 0 p.l.length)) .nil)))),(.node (.node (.node .leaf (some (.kmap true true false Int p.gt am cC)) .leaf) (some (mo 81 2)) .leaf) (some (aD p.l)) (.node .leaf (some (pL p.q p.mh p.m p.ph 3)) .leaf)),4)) (fun p=>p.l.length≤1000000∧0≤p.i∧p.i≤(p.l.length:Int)∧(∀x∈p.l.take p.i.toNat,¬(x∈p.gt))) (fun p K=>ac (iP (∀x∈p.l,¬(x∈p.gt)) (K 2 .nil (.node (.node (.node .leaf (some (.kmap true true false Int p.gt am cC)) .leaf) (some (mo 81 2)) .leaf) (some (aD p.l)) (.node .leaf (some (pL p.q p.mh p.m p.ph 3)) .leaf)) 4) true) (aj fun r:IP=>iP (0≤r.z∧r.z<(p.l.length:Int)∧(∀x∈p.l.take r.z.toNat,¬(x∈p.gt))∧∀x,p.l[r.z.toNat]?=some x→x∈p.gt) (K 1 (.cons 4 (.sy (.int 0 r.z)) .nil) (.node (.node (.node .leaf (some (.kmap true true false Int p.gt am cC)) .leaf) (some (mo 81 2)) .leaf) (some (aD p.l)) (.node .leaf (some (pL p.q p.mh p.m p.ph 3)) .leaf)) 4) true))
theorem Hu:bg Tryz.prog 19 4 OD true 0 vp:=lL (nat:=pU) (fun p:yQ=>((p.l.length:Int) - p.i).toNat) cq (fun _ _ _ _=>rfl) fun p K hpre hK=>by
 dsimp only at hpre hK ⊢
 obtain⟨hK0,hKr0⟩:=ae hK
 have hK1:=hKr0
 obtain⟨g0,g1,g2,g3⟩:=hpre
 have nnx:=trivial
 have nnh:=trivial
 have yp {g:Prop} (h:g:=by first|(rw[List.take_of_length_le (by omega)]at g3;exact g3)|(have hD:x1∈p.gt:=(by first|assumption|(simp_all;done)|(intro hq;simp_all;done)|(intro hq;exact(by assumption:∀y:Int,y∈p.gt→¬x1=y) _ hq rfl));exact⟨g1,by omega,g3,fun x hx=>by rw[hi1]at hx;injection hx with hx;subst hx;exact hD⟩)|fail):g:=h
 have yb {g:Prop} (h:g:=by first|(refine⟨g0,by omega,by omega,?_⟩;rw[show(p.i+1).toNat=p.i.toNat+1 by omega,List.take_add_one,hi1];have hD:¬(x1∈p.gt):=(by first|assumption|(simp_all;done)|(intro hq;simp_all;done)|(intro hq;exact(by assumption:∀y:Int,y∈p.gt→¬x1=y) _ hq rfl));intro x hx;rcases akz.1 hx with hx|hx;exact g3 x hx;simp only[Option.toList,List.mem_singleton]at hx;subst hx;exact hD)|fail):g:=h
 have yz {g:Prop} (h:g:=by first|(first|assumption|(intro h;simp_all);done)|fail):g:=h
 have yq {g:Prop} (h:g:=by first|(refine aW (fun y=>x1=y) ?_;exact wz)|fail):g:=h
 exact wz
structure aaa where
 l:List Int
 q:Nat→Value
 mh:Value
 m:List Int
 ph:Int
 gt:List Int
structure Zd where
 z:Int
theorem NG:aB Tryz.prog 112 4 (aO (fun p:aaa=>([.sy (.prow 0 p.l.length),.fn 124 [.ptr 1 0]],(.node (.node (.node .leaf (some (.kmap true true false Int p.gt am cC)) .leaf) (some (mo 81 2)) .leaf) (some (aD p.l)) (.node .leaf (some (pL p.q p.mh p.m p.ph 3)) .leaf)),4)) (fun p=>p.l.length≤1000000) (fun p K=>aj fun r:Zd=>iP (-1≤r.z∧(r.z= -1→∀x∈p.l,¬(x∈p.gt))∧(¬r.z= -1→0≤r.z∧r.z<(p.l.length:Int)∧(∀x∈p.l.take r.z.toNat,¬(x∈p.gt))∧∀x,p.l[r.z.toNat]?=some x→x∈p.gt)) (K (.sy (.int 0 r.z)) (.node (.node (.node .leaf (some (.kmap true true false Int p.gt am cC)) .leaf) (some (mo 81 2)) .leaf) (some (aD p.l)) (.node .leaf (some (pL p.q p.mh p.m p.ph 3)) .leaf)) 4) true)):=nF (nat:=pU) Dn (dC Hu) fun p K hpre hK=>by
 dsimp only at hpre hK ⊢
 have h1:=hpre
 have yg {g:Prop} (h:g:=by first|(exact⟨h1,by omega,by omega,by simp⟩)|fail):g:=h
 have yp {g:Prop} (h:g:=by first|(first|exact⟨by decide,fun _=>by assumption,fun h=>absurd rfl h⟩|exact⟨by omega,fun h=>by omega,fun _=>by assumption⟩)|fail):g:=h
 exact wz
noncomputable def pP:NN:=fK pU NG [(0,25),(1,13)] (fun us M=>Nat.beq (tE us 1) 124)
noncomputable abbrev vr:XC:=oY
noncomputable def ft_dfgot':NV (fun b0=>aA [] [] [b0] 0x53801851349c16ca3e53453b8e2540a7141b7f9d3c67fdfb6bbb25ad6893c949c2c64f335a9d11b400786fe9125159212d8c58b00b):=⟨_,by conv=>rhs;reduce⟩
noncomputable abbrev PN:XF:=ft_dfgot'.1 vr
theorem DQ:aK Tryz.prog 80 PN=true:=by kernel_rfl
structure yT where
 l:List Int
 q:Nat→Value
 mh:Value
 m:List Int
 ph:Int
 gt:List Int
 o:List Int
 i:Int
 j:Int
structure Mm where
 o:List Int
 i:Int
noncomputable def OJ:bM:=ce bQ 0 (fun p:yT=>((.cons 6 (.sy (.int 0 p.j)) (.cons 5 (.sy (.int 0 p.i)) (.cons 1 (.fn 124 [.ptr 1 0]) (.cons 0 (.sy (.prow 0 p.l.length)) .nil)))),(.node (.node (.node .leaf (some (.kmap true true false Int p.gt am cC)) .leaf) (some (mo 81 2)) .leaf) (some (aD p.o)) (.node .leaf (some (pL p.q p.mh p.m p.ph 3)) .leaf)),4)) (fun p=>p.l.length≤1000000∧0≤p.i∧p.i≤p.j∧p.j≤(p.l.length:Int)∧p.o.length=p.l.length∧p.o.take p.i.toNat=(p.l.take p.j.toNat).filter (fun x=>decide (¬x∈p.gt))∧p.o.drop p.j.toNat=p.l.drop p.j.toNat) (fun p K=>aj fun r:Mm=>iP (0≤r.i∧r.i≤(p.l.length:Int)∧r.o.length=p.l.length∧r.o.take r.i.toNat=p.l.filter (fun x=>decide (¬x∈p.gt))) (K 2 (.cons 5 (.sy (.int 0 r.i)) (.cons 0 (.sy (.prow 0 p.l.length)) .nil)) (.node (.node (.node .leaf (some (.kmap true true false Int p.gt am cC)) .leaf) (some (mo 81 2)) .leaf) (some (aD r.o)) (.node .leaf (some (pL p.q p.mh p.m p.ph 3)) .leaf)) 4) true)
theorem Hx:bg Tryz.prog 42 4 OJ true 0 vr:=lL (nat:=pP) (fun p:yT=>((p.l.length:Int) - p.j).toNat) cq (fun _ _ _ _=>rfl) fun p K hpre hK=>by
 dsimp only at hpre hK ⊢
 obtain⟨g0,g1,g2,g3,g4,g5,g6⟩:=hpre
 have nnx:=trivial
 have nnh:=trivial
 have yp {g:Prop} (h:g:=by first|(rw[List.take_of_length_le (show p.l.length≤p.j.toNat by omega)]at g5;exact⟨g1,by omega,g4,g5⟩)|fail):g:=h
 have yb {g:Prop} (h:g:=by first|(first|exact⟨g0,ri g1 g2 g3 g4 g5 g6 (by omega) (by assumption) (by have hD:¬(x1∈p.gt):=(by first|assumption|(simp_all;done)|(intro hq;simp_all;done)|(intro hq;exact(by assumption:∀y:Int,y∈p.gt→¬x1=y) _ hq rfl));simpa using hD)⟩|exact⟨g0,rj g1 g2 g3 g4 g5 g6 (by omega) hi1 (by have hD:x1∈p.gt:=(by first|assumption|(simp_all;done)|(intro hq;simp_all;done)|(intro hq;exact(by assumption:∀y:Int,y∈p.gt→¬x1=y) _ hq rfl));simpa using hD)⟩)|fail):g:=h
 have yz {g:Prop} (h:g:=by first|(first|assumption|(intro h;simp_all);done)|fail):g:=h
 have yq {g:Prop} (h:g:=by first|(refine aW (fun y=>x1=y) ?_;exact wz)|(refine wX x1 (by first|exact sd|exact ys) ?_;exact wz)|(exact jS (.mk p.l ..))|fail):g:=h
 exact wz
structure aaB where
 l:List Int
 q:Nat→Value
 mh:Value
 m:List Int
 ph:Int
 gt:List Int
structure ZL where
 o:List Int
theorem Oe:aB Tryz.prog 80 4 (aO (fun p:aaB=>([.sy (.prow 0 p.l.length),.fn 124 [.ptr 1 0]],(.node (.node (.node .leaf (some (.kmap true true false Int p.gt am cC)) .leaf) (some (mo 81 2)) .leaf) (some (aD p.l)) (.node .leaf (some (pL p.q p.mh p.m p.ph 3)) .leaf)),4)) (fun p=>p.l.length≤1000000) (fun p K=>aj fun r:ZL=>iP (r.o=p.l.filter (fun x=>decide (¬x∈p.gt))∧r.o.length≤p.l.length) (K (.sy (.prow 0 r.o.length)) (.node (.node (.node .leaf (some (.kmap true true false Int p.gt am cC)) .leaf) (some (mo 81 2)) .leaf) (some (aD r.o)) (.node .leaf (some (pL p.q p.mh p.m p.ph 3)) .leaf)) 4) true)):=nF (nat:=pP) DQ (dC Hx) fun p K hpre hK=>by
 dsimp only at hpre hK ⊢
 have h1:=hpre
 have ys {g:Prop} (h:g:=by first|(first|omega|(simp;done)|(simp;omega)|(simp only[akA];omega);done)|(exact⟨rfl,rfl,by first|omega|(simp only[akA];omega)⟩;done)|fail):g:=h
 have yg {g:Prop} (h:g:=by first|(first|omega|assumption|exact⟨by omega,by omega⟩)|(have hz:=(hi.2.2 (by assumption));exact⟨h1,oT (fun x=>by simp) hz⟩)|fail):g:=h
 have yp {g:Prop} (h:g:=by first|(first|exact vd (fun x=>by simp) (hi.2.1 (by assumption))|exact vb (by assumption))|fail):g:=h
 have yq {g:Prop} (h:g:=by first|(refine cn (.mk p.l ..) (h:= ?_);exact wo)|fail):g:=h
 exact wz
noncomputable def xW:NN:=fK pP Oe [(0,25),(1,13)] (fun us M=>Nat.beq (tE us 1) 124)
noncomputable def ft_keepin':NV (aA [] [] [] 0x59b1cbdadccc77168362560ad6522d30):=⟨_,by conv=>rhs;reduce⟩
noncomputable abbrev Ld:XF:=ft_keepin'.1
theorem ly:aK Tryz.prog 63 Ld=true:=by kernel_rfl
structure Rs where
 l:List Int
 N:Int
 mh:Value
 m:List Int
structure QP where
 o:List Int
theorem JN:aB Tryz.prog 63 2 (aO (fun p:Rs=>([.sy (.prow 0 p.l.length),.fn 62 [.ptr 1 0]],(.node (.node .leaf (some (cX p.N p.mh p.m)) .leaf) (some (aD p.l)) .leaf),2)) (fun p=>p.l.length≤1000000∧p.m.length≤1000000) (fun p K=>aj fun r:QP=>iP (r.o=p.l.filter (fun x=>decide (x∈p.m))∧r.o.length≤p.l.length) (K (.sy (.prow 2 r.o.length)) (.node (.node .leaf (some (cX p.N p.mh p.m)) .leaf) (some (aD p.l)) (.node .leaf (some (aD r.o)) .leaf)) 3) true)):=nE (nat:=xW) ly fun p K hpre hK=>by
 dsimp only at hpre hK ⊢
 obtain⟨h1,h2⟩:=hpre
 have nnh:=trivial
 have yg {g:Prop} (h:g:=by first|(first|omega|assumption|exact⟨by omega,by omega⟩)|fail):g:=h
 have yp {g:Prop} (h:g:=by first|(rw[←hi1.1];exact⟨hi.1,hi.2⟩)|fail):g:=h
 exact wz
noncomputable def uy:NN:=fK xW JN [(0,25),(1,13)] (fun us M=>Nat.beq (tE us 1) 62)
structure MJ where
 l:List Int
 N:Int
 mh:Value
 m:List Int
structure Mn where
 o:List Int
theorem Hh:aB Tryz.prog 63 3 (aO (fun p:MJ=>([.sy (.prow 0 p.l.length),.fn 64 [.ptr 1 0]],(.node (.node .leaf (some (cU 62 2)) .leaf) (some (aD p.l)) (.node .leaf (some (cX p.N p.mh p.m)) .leaf)),3)) (fun p=>p.l.length≤1000000∧p.m.length≤1000000) (fun p K=>aj fun r:Mn=>iP (r.o=p.l.filter (fun x=>decide (¬x∈p.m))∧r.o.length≤p.l.length) (K (.sy (.prow 3 r.o.length)) (.node (.node (.node .leaf (some (aD r.o)) .leaf) (some (cU 62 2)) .leaf) (some (aD p.l)) (.node .leaf (some (cX p.N p.mh p.m)) .leaf)) 4) true)):=nE (nat:=uy) ly fun p K hpre hK=>by
 dsimp only at hpre hK ⊢
 obtain⟨h1,h2⟩:=hpre
 have nnh:=trivial
 have yg {g:Prop} (h:g:=by first|(first|omega|assumption|exact⟨by omega,by omega⟩)|fail):g:=h
 have yp {g:Prop} (h:g:=by first|(rw[←hi1.1];exact⟨hi.1,hi.2⟩)|fail):g:=h
 exact wz
noncomputable def rV:NN:=fK uy Hh [(0,25),(1,13)] (fun us M=>Nat.beq (tE us 1) 64)
structure MK where
 h:Value
 l:List Int
 N:Int
 mh:Value
 m:List Int
structure Mo where
 o:List Int
theorem Hi:aB Tryz.prog 63 1 (aO (fun p:MK=>([.sy (.imm p.h 2 Int p.l am),.fn 164 [.ptr 0 0]],(.node .leaf (some (cX p.N p.mh p.m)) .leaf),1)) (fun p=>p.l.length≤1000000∧p.m.length≤1000000) (fun p K=>aj fun r:Mo=>iP (r.o=p.l.filter (fun x=>decide (¬x∈p.m))∧r.o.length≤p.l.length) (K (.sy (.prow 1 r.o.length)) (.node (.node .leaf (some (aD r.o)) .leaf) (some (cX p.N p.mh p.m)) .leaf) 2) true)):=nE (nat:=rV) ly fun p K hpre hK=>by
 dsimp only at hpre hK ⊢
 obtain⟨h1,h2⟩:=hpre
 have nnh:=trivial
 have yg {g:Prop} (h:g:=by first|(first|omega|assumption|exact⟨by omega,by omega⟩)|fail):g:=h
 have yp {g:Prop} (h:g:=by first|(rw[←hi1.1];exact⟨hi.1,hi.2⟩)|fail):g:=h
 exact wz
noncomputable def rW:NN:=fK rV Hi [(0,23),(1,13)] (fun us M=>Nat.beq (tE us 1) 164)
noncomputable def ft_missing':NV (fun e0=>aA [e0] [] [] 0x399426fdae2e4b0f56f0ea13ce78af5d09d6ef64386a65df930918a1148ee0eb0f47cf803b5c1276c05188):=⟨_,by conv=>rhs;reduce⟩
noncomputable abbrev HW:XF:=ft_missing'.1 (eB 52 2 am)
theorem zb:aK Tryz.prog 96 HW=true:=by kernel_rfl
structure MD where
 q:Nat→Value
 mh:Value
 m:List Int
 ph:Int
 gt:List Int
structure Mh where
 o:List Int
theorem Hg:aB Tryz.prog 96 2 (aO (fun p:MD=>([.ptr 0 0],(.node (.node .leaf (some (.kmap true true false Int p.gt am cC)) .leaf) (some (pL p.q p.mh p.m p.ph 1)) .leaf),2)) (fun p=>p.m.length≤1000000) (fun p K=>aj fun r:Mh=>iP (r.o=gK p.ph p.m p.gt∧r.o.length≤p.m.length) (K (.sy (.prow 2 r.o.length)) (.node (.node .leaf (some (.kmap true true false Int p.gt am cC)) .leaf) (some (pL p.q p.mh p.m p.ph 1)) (.node .leaf (some (aD r.o)) .leaf)) 3) true)):=nE (nat:=rW) zb fun p K hpre hK=>by
 dsimp only at hpre hK ⊢
 have h1:=hpre
 have nnh:=trivial
 have yg {g:Prop} (h:g:=by first|(first|omega|assumption|exact⟨by omega,by omega⟩)|fail):g:=h
 have yp {g:Prop} (h:g:=by first|(unfold gK;first|(rw[if_pos (by assumption)];exact⟨rfl,Nat.zero_le _⟩)|(rw[if_neg (by assumption),←hi2.1];exact⟨hi3.1,hi3.2⟩))|(unfold gK;first|(rw[if_pos (by assumption)];exact⟨rfl,Nat.zero_le _⟩)|(rw[if_neg (by assumption),←hi1.1];exact⟨hi.1,hi.2⟩))|fail):g:=h
 exact wz
noncomputable def Dh:NN:=iD rW Hg [(0,4)] [0,1,3,6,7,8,9,10]
end Go.Proofs.Tryz
namespace Go.Proofs.Tryz
open Go.Proofs.YtjhpjjbnojbikaaGreat (Procs oV sX kx pF IG Keep oQ)
open Go Go.RowKit Go.Sy
open Go.Eng hiding aj
set_option maxRecDepth 1000000
set_option linter.unusedVariables false
set_option maxHeartbeats 4000000
attribute [local irreducible] aq
theorem mF {E:Env} {ρ:Ren} {G:GS} {F:List aH} {M:T} {nx:Nat} {w:World} (hs:Sim E ρ G F M nx w) {h x:Value} {l:List Int} (hd:den E ρ (.sy (.imm h 2 Int l am))=some x):
  ∃ao cap,x= .slice ao l.length cap∧(0<l.length→∃b o,ao=some ⟨b,o,none⟩∧b<w.heap.size∧Procs w b o (l.map fun x=>(x,1))):=by
 obtain⟨h1,h2⟩:=dX (show dH E (.imm h 2 Int l am)=some x from hd)
 obtain⟨ao,cap,rfl,q1,q2,q3,ha,hl,ho,hr⟩:=mj h1
 refine⟨ao,cap,h2,fun h0=>⟨blk ao,mn ao,ha h0,?_,fun j hj z hz=> ?_⟩⟩
 ·obtain⟨y,hy⟩:∃y,l[0]?=some y:=⟨_,List.getElem?_eq_getElem h0⟩
  have hm:=hr 0 y hy 0 (.int .u8 y) rfl
  have hc:=hs.cellM hm
  rcases Nat.lt_or_ge (blk ao) w.heap.size with q|q
  ·exact q
  ·rw[World.cell?,Array.getElem?_eq_none q]at hc;cases hc
 ·rw[List.getElem?_map]at hz
  obtain⟨y,hy,rfl⟩:=Option.map_eq_some_iff.1 hz
  have c0:=hs.cellM (hr j y hy 0 (.int .u8 y) rfl)
  have c1:=hs.cellM (hr j y hy 1 (.int .u16 1) rfl)
  exact⟨by simpa using c0,by simpa using c1⟩
theorem yu:∀{l:List Int},oQ (l.map fun x=>(x,1))=(l.flatMap am).map aR
 |[]=>rfl
 |x::l=>by
  have:=yu (l:=l)
  simp only[akr,List.flatMap_cons,List.map_append]at this ⊢
  rw[←this]
  rfl
theorem Vg {M:dO} {l:List Int}:∀p∈l.flatMap am,OkP M p:=fun p hp=>by
 obtain⟨x,_,hx⟩:=List.mem_flatMap.1 hp
 simp only[am,List.mem_cons,List.not_mem_nil,or_false]at hx
 rcases hx with rfl|rfl
 ·exact .sint _ _
 ·exact .int _ _
theorem DV {l d:List Int}:(l.map fun x=>(x,(1:Int))).filter (fun x=> !decide (x∈d.map fun x=>(x,(1:Int))))=(l.filter fun x=>decide (¬x∈d)).map fun x=>(x,1):=by
 rw[List.filter_map]
 congr 2
 funext x
 by_cases h:x∈d<;>simp[h]
theorem BX {l d:List Int}:((l.map fun x=>(x,(1:Int))).filter (fun x=>decide (x∈d.map fun x=>(x,(1:Int))))).length=(l.filter fun x=>decide (x∈d)).length:=by
 rw[List.filter_map,akm]
 congr 2
 funext x
 by_cases h:x∈d<;>simp[h]
theorem vO {E:Env} {ρ:Ren} {G:GS} {F:List aH} {M:T} {nx k:Nat} {w w':World} {K:AV→T→Nat→Bool} {R:Ending→World→Prop} {o:List Int} {r:Value} (hs:Sim E ρ G F M nx w) (hE:cF E)
  (hr:∀v M' nx' E' ρ' w' z,K v M' nx'=true→cF E'→MLe E.M E'.M→(∀i e,i<k→ρ i=some e→ρ' i=some e)→Sim E' ρ' G F M' nx' w'→den E' ρ' v=some z→R (.returned z) w')
  (hrow:w'.ownsRow w.heap.size 52 2 r o.length ((o.flatMap am).map aR)) (hB:Below w.heap.size w w') (hk:T.set aQ M nx (some (aD o)) (fun M'=>K (.sy (.prow nx o.length)) M' (nx+1))=true):R (.returned r) w':=by
 obtain⟨M',hK,g1,g2⟩:=T.set_ok _ _ _ _ _ hk
 have hfr:=hs.fresh nx (akB _)
 rcases hrow.2 with⟨rfl,h0⟩|⟨g',cap2,cur,rfl,r1,r2,r3,r4,r5,r6⟩
 ·have hnil:=akG h0
  rw[hnil]at g1
  refine hr _ _ _ E _ w' _ hK hE (MLe.refl _) (fun m e' hm he=>Ren.le_set _ hfr m e' he) ((hs.nilRow (by decide) g1 g2).ext hB) ?_
  simp only[den,aJ,Ren.set_self,h0]
  rfl
 ·have hS:Sim E (ρ.set nx ⟨g',cap2+1⟩) G F M' (nx+1) w':=hs.regrow (i:=nx) (old:=none) (o':=(aD o)) (ob':=.cells cur 52 (0,0)) hfr (Nat.le_succ _) (Nat.lt_succ_self _) (fun b h=>by cases h)
   ⟨hB.os,hB.tape,hB.output,hB.size,fun k hk _=>hB.block k hk⟩ r2 (.inr r1)
   ⟨cur,_,rfl,by decide,fun x _=>rfl,ej Vg,by simpa using r5,r6,by simpa using r3,by simpa using r4⟩ g1 (fun m hm _=>g2 m hm) (fun h=>absurd rfl h)
  refine hr _ _ _ E _ w' _ hK hE (MLe.refl _) (fun m e' hm he=>Ren.le_set _ hfr m e' he) hS ?_
  simp only[den,aJ,Ren.set_self]
  rfl
theorem ii {w:World} {b o:Nat} {x:Value} (h:w.cell? ⟨b,o,none⟩=some x):b<w.heap.size:=by
 rcases Nat.lt_or_ge b w.heap.size with q|q
 ·exact q
 ·rw[World.cell?,Array.getElem?_eq_none q]at h;cases h
structure gD where
 N:Int
 mh:Value
 m:List Int
 dh:Value
 d:List Int
structure vE where
 o:List Int
def nc (p:gD) (r:vE):Prop:=r.o=p.m.filter (fun x=>decide (¬x∈p.d))∧r.o.length≤p.m.length
noncomputable def dv (p:gD):IE:=([.fn 178 [.ptr 0 0,.ptr 1 0]],(.node (.node (.node .leaf (some (.blk false 43 1 [[.sy (.imm p.dh 2 Int p.d am)]])) .leaf) (some (cU 160 2)) .leaf) (some (cX p.N p.mh p.m)) (.node .leaf (some (cU 176 3)) .leaf)),4)
noncomputable def rX (p:gD) (K:KE) (r:vE):Bool:=K (.sy (.prow 4 r.o.length)) (.node (.node (.node .leaf (some (.blk false 43 1 [[.sy (.imm p.dh 2 Int p.d am)]])) .leaf) (some (cU 160 2)) .leaf) (some (cX p.N p.mh p.m)) (.node (.node .leaf (some (aD r.o)) .leaf) (some (cU 176 3)) .leaf)) 5
noncomputable def iA (p:gD) (K:KE):Bool:=aj fun r=>iP (nc p r) (rX p K r) true
def iy (p:gD):Prop:=0<p.m.length∧p.m.length≤1000∧p.d.length≤1000
theorem Iv {s:IE} {K:KE} (w:gD) (e:∀t,dv w=t→s=t:=by first|(intro t h;dsimp only[dv]at h;subst h;exact rfl)|fail) (g:iy w:=by first|((try dsimp only[iy,oL,oN,Int.reduceNegSucc]);first|done|exact yg|trivial|assumption|omega|(refine⟨?_,?_,?_⟩<;>first|assumption|omega))|fail) (h:iA w K=true):Cl s dv iy iA K:=wS w e g h
theorem Dj:aB Tryz.prog 158 4 (fg dv (iu iy iA)):=by
 intro us xs E ρ G F M nx w K R hE hs hd hk0 hr
 obtain⟨p,hk1⟩:=bj hk0
 obtain⟨e,hk2⟩:=ai hk1
 obtain⟨hpre,hk⟩:=ai hk2
 clear hk0 hk1 hk2
 have e1:us=(dv p).1:=congrArg Prod.fst e
 have e2:M=(dv p).2.1:=congrArg (fun x=>x.2.1) e
 have e3:nx=(dv p).2.2:=congrArg (fun x=>x.2.2) e
 clear e
 subst e1;subst e2;subst e3
 obtain⟨h1,h2,h3⟩:=hpre
 have ha:(dv p).2.1.get 0=some (cX p.N p.mh p.m):=rfl
 have hb:(dv p).2.1.get 1=some (cU 160 2):=rfl
 have hc:(dv p).2.1.get 2=some (cU 176 3):=rfl
 have hdd:(dv p).2.1.get 3=some (.blk false 43 1 [[.sy (.imm p.dh 2 Int p.d am)]]):=rfl
 obtain⟨ba,xa,a1,a2,a3⟩:=hs.cell (q:=0) (r:=2) ha rfl rfl
 obtain⟨bb,xb,b1,b2,b3⟩:=hs.cell (q:=0) (r:=0) hb rfl rfl
 obtain⟨bc,xc,c1,c2,c3⟩:=hs.cell (q:=0) (r:=0) hc rfl rfl
 obtain⟨bd,xd,d1,d2,d3⟩:=hs.cell (q:=0) (r:=0) hdd rfl rfl
 simp only[Nat.zero_mul,Nat.zero_add,Nat.add_zero]at a3 b3 c3 d3
 obtain⟨ao,cap,rfl,hm⟩:=mF hs a2
 obtain⟨bv,ov,rfl,l1,p1⟩:=hm h1
 obtain⟨al,cd,rfl,hl0⟩:=mF hs d2
 simp only[den,ax,c1,d1,akE]at b2 c2
 subst b2;subst c2
 obtain⟨x0,ys,q0,q1,rfl⟩:=bf hd
 obtain rfl:ys=[]:=by simpa[ax] using q1.symm
 simp only[den,ax,a1,b1,akE]at q0
 subst q0
 have hlen:(p.m.map fun x=>(x,(1:Int))).length=p.m.length:=akm _
 have hdlen:(p.d.map fun x=>(x,(1:Int))).length=p.d.length:=akm _
 have body:=oV ba.b bb.b bv ov cap 160 #[.pointer (some ⟨bc.b,0,none⟩)] (p.m.map fun x=>(x,1)) (fun x=> !decide (x∈p.d.map fun x=>(x,(1:Int)))) (by rw[hlen];exact h2) (.inl rfl) w l1 (ii a3) (ii b3)
  (fun x _ W' hW=>by
   have h:=IG (b:=3) (sX bc.b bd.b x (decide (x∈p.d.map fun x=>(x,(1:Int)))) W' (Nat.lt_of_lt_of_le (ii c3) hW.size) ((hW.cell (p:=⟨bc.b,0,none⟩) (ii c3) (ii c3)).trans c3) (fun W2 hB=>by
    have hK:=hW.trans (Keep.of hB)
    refine IG (b:=3) (kx al bd.b cd (p.d.map fun x=>(x,(1:Int))) (by rw[hdlen];exact h3) x W2 (fun h0=> ?_) (Nat.lt_of_lt_of_le (ii d3) hK.size) (by rw[hdlen];exact(hK.cell (p:=⟨bd.b,0,none⟩) (ii d3) (ii d3)).trans d3))
    obtain⟨bl,ol,r1,r2,r3⟩:=hl0 (by rw[←hdlen];exact h0)
    exact⟨bl,ol,r1,Nat.lt_of_lt_of_le r2 hK.size,r3.keep hK r2 r2⟩))
   exact h)
  (by rw[hlen];exact a3) b3 p1
 refine(callsIn_wide.1 body).mono ?_
 rintro en w' ⟨r,rfl,hrow,hB⟩
 rw[DV,akm,yu]at hrow
 exact vO hs hE hr hrow hB (dx (p:=nc p ⟨_⟩) ⟨rfl,List.length_filter_le _ _⟩ (aU hk ⟨_⟩))
noncomputable def AD:NN:=bW Dh Dj [(0,13)]
structure im where
 N:Int
 mh:Value
 m:List Int
 lh:Value
 l:List Int
structure yM where
 q:Prop
def oi (p:im) (r:yM):Prop:=r.q↔p.m.length / 2+1≤(p.m.filter (fun x=>decide (x∈p.l))).length
noncomputable def gk (p:im):IE:=([(ll p.N p.mh p.m),.sy (.imm p.lh 2 Int p.l am)],.leaf,0)
noncomputable def uQ (p:im) (K:KE) (r:yM):Bool:=K (.sy (.bool r.q)) .leaf 0
noncomputable def jn (p:im) (K:KE):Bool:=aj fun r=>iP (oi p r) (uQ p K r) true
def jl (p:im):Prop:=0<p.m.length∧p.m.length≤1000∧p.l.length≤1000
theorem LI {s:IE} {K:KE} (w:im) (e:∀t,gk w=t→s=t:=by first|(intro t h;dsimp only[gk]at h;subst h;exact rfl)|fail) (g:jl w:=by first|((try dsimp only[jl,oL,oN,Int.reduceNegSucc]);first|done|exact yg|trivial|assumption|omega|(refine⟨?_,?_,?_⟩<;>first|assumption|omega))|fail) (h:jn w K=true):Cl s gk jl jn K:=wS w e g h
theorem Hf:aB Tryz.prog 162 0 (fg gk (iu jl jn)):=by
 intro us xs E ρ G F M nx w K R hE hs hd hk0 hr
 obtain⟨p,hk1⟩:=bj hk0
 obtain⟨e,hk2⟩:=ai hk1
 obtain⟨hpre,hk⟩:=ai hk2
 clear hk0 hk1 hk2
 have e1:us=(gk p).1:=congrArg Prod.fst e
 have e2:M=(gk p).2.1:=congrArg (fun x=>x.2.1) e
 have e3:nx=(gk p).2.2:=congrArg (fun x=>x.2.2) e
 clear e
 subst e1;subst e2;subst e3
 obtain⟨h1,h2,h3⟩:=hpre
 obtain⟨x0,ys,q0,q1,rfl⟩:=bf hd
 obtain⟨x1,ys2,q2,q3,rfl⟩:=bf q1
 obtain rfl:ys2=[]:=by simpa[ax] using q3.symm
 have q0:(match ax E ρ [.int 1 (.ofNat 0),.sy (.int 3 p.N),.sy (.imm p.mh 2 Int p.m am)] with|some cs=>some (Value.agg cs.toArray)|none=>none)=some x0:=q0
 split at q0
 case h_2=>cases q0
 rename_i cs hcs
 obtain⟨y0,r0,w0,w1,rfl⟩:=bf hcs
 obtain⟨y1,r1,w2,w3,rfl⟩:=bf w1
 obtain⟨xm,r2,hxm,w5,rfl⟩:=bf w3
 obtain rfl:r2=[]:=by simpa[ax] using w5.symm
 obtain rfl:y0= .int .u8 0:=akH (w0.symm.trans rfl)
 obtain rfl:y1= .int .u32 p.N:=akH (w2.symm.trans rfl)
 obtain⟨ao,cap,rfl,hm⟩:=mF hs hxm
 obtain⟨bv,ov,rfl,l1,p1⟩:=hm h1
 obtain⟨al,cd,rfl,hl0⟩:=mF hs q2
 have hlen:(p.m.map fun x=>(x,(1:Int))).length=p.m.length:=akm _
 have hdlen:(p.l.map fun x=>(x,(1:Int))).length=p.l.length:=akm _
 obtain rfl:=akH q0
 have body:=pF 0 p.N bv ov cap cd al (p.m.map fun x=>(x,1)) (p.l.map fun x=>(x,1)) (by rw[hlen];exact h2) (by rw[hdlen];exact h3) w l1 p1 (by rw[hdlen];exact hl0)
 rw[hlen,hdlen,BX]at body
 refine(callsIn_wide.1 body).mono ?_
 rintro en w' ⟨rfl,hB⟩
 have hK:=dx (p:=oi p ⟨p.m.length / 2+1≤(p.m.filter fun x=>decide (x∈p.l)).length⟩) Iff.rfl (aU hk ⟨_⟩)
 refine hr _ _ _ E ρ w' _ hK hE (MLe.refl _) (fun _ _ _ h=>h) (hs.ext hB) ?_
 simp only[den,aJ,gu]
noncomputable def Dg:NN:=bW AD Hf [(0,15),(1,23)]
end Go.Proofs.Tryz
namespace Go.Proofs.YtjhpjjbnojbikaaGreat
open Go Go.RowKit Go.Sy
attribute [local go_sem] Oper.semAt_some
open Go.Eng hiding aj
theorem pu {F:Fence} {n:Nat} {P:Program} (w:World) {ops:Array Oper} {rest:List Oper} {o:Oper} {a:Act} {Q:Exit→Act→World→Prop} (hgd:o.guard=none) (s x:Operand) (t tn:TypeId)
  (ho:o.op= .call {callee:=.builtin .append,args:= #[s,x],argTypes:= #[t,tn]}) (vs vx:Value) (hs:a.eval s=vs) (hx:a.eval x=vx)
  (v':Value) (w':World) (hr:(Builtin.append_ #[t,tn] o.type #[vs,vx]).run P w= .ok v' w') (h:wpListIn F n P ops Q rest (a.put o.dst v') w'):wpListIn F n P ops Q (o::rest) a w:=by
 refine wpListIn_plain hgd fun K hK'=> ?_
 unfold Oper.wpIn
 refine⟨?_,?_⟩
 ·simp[Oper.about,ho,resolve,Target.leads,Sem.run_pure]
 ·rw[Oper.semAt_plain F _ _ (by rw[ho];intro c hc';cases hc')]
  simp[execOp,ho,resolve,invoke,builtin,hs,hx,hr,Result.andThen]
  exact hK' _ _ h
theorem Gu {cs:Array Value} {n c:Nat} (h:cs.size=2) (hc:n≤c):(Builtin.zeroCells cs n++Builtin.zeroCells cs (c - n)).size=c*2:=by
 simp[Builtin.zeroCells,h]
 omega
theorem CK (w:World) (o:Obj):(w.alloc o).drew.heap[w.heap.size]?=some o:=by
 show(w.heap.push o)[w.heap.size]?=some o
 simp
theorem CL (w:World) (o:Obj):Below w.heap.size w (w.alloc o).drew:=⟨rfl,rfl,rfl,by
 show _≤(w.heap.push o).size
 simp,fun k hk=>by
 show(w.heap.push o)[k]?=_
 rw[Array.getElem?_push,if_neg (by omega)]⟩
theorem Ff (w:World):CallsIn Fence.wide 3 Tryz.prog 156 #[.slice none 0 0,.int .i64 0] w fun e W'=>e= .returned (.slice none 0 0)∧W'=w:=by
 refine callsIn_of_wp Tryz.func156 rfl trivial ?_ rfl
 simp only[Tryz.ntmps156,List.size_toArray,akl,akn,Nat.reduceAdd,Nat.reduceSub,Array.replicate_succ,Array.replicate_zero,List.push_toArray,List.append_toArray,aku,aks]
 gi_wp2
 refine bodyPost_ret (results_tmp rfl _ _ _) rfl ?_
 exact⟨rfl,rfl⟩
set_option maxRecDepth 100000 in
set_option maxHeartbeats 1000000 in
theorem BF (n:Nat) (h0:0<n) (hn:n≤1000) (w:World):CallsIn Fence.wide 3 Tryz.prog 156 #[.slice none 0 0,.int .i64 n] w fun e W'=>∃cap cur,e= .returned (.slice (some ⟨w.heap.size,0,none⟩) 0 cap)∧cur.size=cap*2∧cap≤maxLen∧W'.heap[w.heap.size]?=some (.cells cur 52 (0,0))∧Below w.heap.size w W':=by
 obtain⟨i0,z,hi,hz0,hz1,hz2,hz3,hz4⟩:=ft (P:=Tryz.prog) (E:=52) (size:=2) (bytes:=4) (by kernel_rfl)
 have hb:n*i0.bytes≤281474976710656:=by rw[hz3];omega
 refine callsIn_of_wp Tryz.func156 rfl trivial ?_ rfl
 simp only[Tryz.ntmps156,List.size_toArray,akl,akn,Nat.reduceAdd,Nat.reduceSub,Array.replicate_succ,Array.replicate_zero,List.push_toArray,List.append_toArray,aku,aks]
 have hr:=Lib.run_append_nil_zeros (P:=Tryz.prog) w 43 3 43 52 i0 z .i64 .i64 Tryz.underlying43 Tryz.underlying3 hi hz0 n h0 (by omega) (by omega) hb
 have hc1:=grownCap_ge w n 0 52
 have hc2:=grownCap_le_maxLen w n 0 52 (by have:maxLen=9223372036854775807:=rfl;omega)
 gi_wp2_with (gi_at_builtin;refine pu _ rfl _ _ 43 3 rfl _ _ rfl rfl _ _ hr ?_)
 all_goals refine bodyPost_ret (results_tmp rfl _ _ _) rfl ⟨_,_,rfl,?_,hc2,CK _ _,CL _ _⟩
 ·exact Gu hz2 hc1
 ·rename_i hno
  exfalso
  cases z<;>first|exact hno _ rfl|(simp[Value.cells]at hz2;done)
end Go.Proofs.YtjhpjjbnojbikaaGreat
namespace Go.Proofs.YtjhpjjbnojbikaaGreat
open Go Go.RowKit Go.Eng Go.Sy
set_option linter.unusedVariables false
theorem adj (a b:Nat) (hb:b<256):a*256|||b=a*256+b:=by
 have:=Nat.shiftLeft_add_eq_or_of_lt (b:=b) (i:=8) (by simpa using hb) a
 rw[Nat.shiftLeft_eq]at this
 simpa using this.symm
theorem DX {r n:Int} (hr0:0≤r) (hr1:r<4294967296) (hn0:0≤n) (hn1:n<256):bits BinOp.or IntKind.u64 (r*256) n=r*256+n:=by
 obtain⟨a,rfl⟩:=Int.eq_ofNat_of_zero_le hr0
 obtain⟨b,rfl⟩:=Int.eq_ofNat_of_zero_le hn0
 have h1:((a:Int)*256)=((a*256:Nat):Int):=by omega
 unfold bits
 simp only[h1]
 show IntKind.u64.wrap ((BitVec.ofInt 64 ((a*256:Nat):Int)|||BitVec.ofInt 64 (b:Int)).toNat)=_
 rw[BitVec.ofInt_natCast,BitVec.ofInt_natCast,BitVec.toNat_or,BitVec.toNat_ofNat,BitVec.toNat_ofNat,Nat.mod_eq_of_lt (by omega),Nat.mod_eq_of_lt (by omega),adj a b (by omega)]
 have h2:mP 4 ((a*256+b:Nat):Int):=by simp only[mP];omega
 simp only[IntKind.wrap,IntKind.bits,IntKind.signed]
 simp
 omega
set_option maxRecDepth 100000 in
set_option maxHeartbeats 1000000 in
theorem yL (r n:Int) (hr0:0≤r) (hr1:r<4294967296) (hn0:0≤n) (hn1:n<256) (w:World):CallsIn Fence.wide 3 Tryz.prog 101 #[.int .u32 r,.int .u8 n] w fun e W'=>e= .returned (.int .u64 (r*256+n))∧W'=w:=by
 refine callsIn_of_wp Tryz.func101 rfl trivial ?_ rfl
 simp only[Tryz.ntmps101,List.size_toArray,akl,akn,Nat.reduceAdd,Nat.reduceSub,Array.replicate_succ,Array.replicate_zero,List.push_toArray,List.append_toArray,aku,aks]
 gi_wp2
 rw[DX hr0 hr1 hn0 hn1]
 refine bodyPost_ret (results_tmp rfl _ _ _) rfl ?_
 exact⟨rfl,rfl⟩
theorem zZ (b:Int) (hb0:0≤b) (hb1:b<18446744073709551616) (w:World):CallsIn Fence.wide 3 Tryz.prog 114 #[.int .u64 b] w fun e W'=>e= .returned (.int .u32 (b / 256 % 4294967296))∧W'=w:=by
 refine callsIn_of_wp Tryz.func114 rfl trivial ?_ rfl
 simp only[Tryz.ntmps114,List.size_toArray,akl,akn,Nat.reduceAdd,Nat.reduceSub,Array.replicate_succ,Array.replicate_zero,List.push_toArray,List.append_toArray,aku,aks]
 gi_wp2
 refine bodyPost_ret (results_tmp rfl _ _ _) rfl ?_
 exact⟨rfl,rfl⟩
end Go.Proofs.YtjhpjjbnojbikaaGreat
namespace Go.Proofs.Tryz
open Go.Proofs.YtjhpjjbnojbikaaGreat (Procs oV sX kx pF IG Keep oQ Ff BF)
open Go Go.RowKit Go.Sy
open Go.Eng hiding aj
set_option maxRecDepth 1000000
set_option linter.unusedVariables false
set_option maxHeartbeats 4000000
attribute [local irreducible] aq
def NL (l:List Int):Prop:=l.Nodup∧∀x∈l,0≤x∧x<8
theorem Au:∀(n:Nat) {l:List Int},l.Nodup→(∀x∈l,0≤x∧x<(n:Int))→l.length≤n
 |0,l,_,h=>by
  cases l with
  |nil=>exact akB _
  |cons x l=>have:=h x (by simp);omega
 |n+1,l,hd,h=>by
  by_cases hm:(n:Int)∈l
  ·have h1:=Au n (l:=l.erase n) (hd.erase _) fun x hx=>by
    have h2:=(hd.mem_erase_iff).1 hx
    have h3:=h x h2.2
    have h4:=h2.1
    omega
   rw[List.length_erase_of_mem hm]at h1
   omega
  ·have h1:=Au n hd fun x hx=>by
    have h3:=h x hx
    have h4:x≠n:=fun e=>hm (e▸hx)
    omega
   omega
theorem ah {l:List Int} (h:NL l):l.length≤8:=Au 8 h.1 h.2
theorem Tc {l:List Int} (h:NL l) {i:Nat} {x:Int} (hx:l[i]?=some x):0≤x∧x<8:=h.2 x (akp hx)
theorem wg {l:List Int} (h:l.Nodup) {i:Nat} {x:Int} (hx:l[i]?=some x):¬x∈l.take i:=fun hm=>by
 have hi:=(List.getElem?_eq_some_iff.1 hx).1
 have hv:=(List.getElem?_eq_some_iff.1 hx).2
 have e:l=l.take i++l.drop i:=(List.take_append_drop i l).symm
 rw[e]at h
 exact(List.nodup_append.1 h).2.2 x hm x (by rw[←hv,List.drop_eq_getElem_cons hi];exact List.mem_cons_self) rfl
def dU (l:List Int) (x:Int):List Int:=if x∈l then l else l++[x]
def jr (m drop add:List Int):Option (List Int):=
 let l:=add.foldl dU (m.filter (fun x=>decide (¬x∈drop)))
 if m.length / 2+1≤(m.filter (fun x=>decide (x∈l))).length then some l else none
def cN (m susp joins going:List Int):List Int:=match jr m (susp++going) joins with
 |some l=>l
 |none=>match jr m [] joins with
  |some l=>l
  |none=>m
theorem wb {l:List Int} {x:Int} (h:NL l) (hx:0≤x∧x<8):NL (dU l x):=by
 unfold dU
 split
 ·exact h
 ·rename_i hn
  refine⟨List.nodup_append.2 ⟨h.1,by simp,fun a ha b hb e=> ?_⟩,fun y hy=> ?_⟩
  ·simp only[List.mem_singleton]at hb
   subst hb;subst e;exact hn ha
  ·rcases akz.1 hy with hy|hy
   ·exact h.2 y hy
   ·simp only[List.mem_singleton]at hy
    subst hy;exact hx
theorem qW {add:List Int}:∀{l:List Int},NL l→(∀x∈add,0≤x∧x<8)→NL (add.foldl dU l):=by
 induction add with
 |nil=>exact fun h _=>h
 |cons x add ih=>exact fun h ha=>ih (wb h (ha x (by simp))) fun y hy=>ha y (by simp[hy])
theorem ib {l:List Int} {f:Int→Bool} (h:NL l):NL (l.filter f):=⟨h.1.filter _,fun x hx=>h.2 x (List.mem_filter.1 hx).1⟩
theorem Ik {α β:Type} {f:β→α→β} {l:List α} {i:Nat} {x:α} {b:β} (h:l[i]?=some x):f ((l.take i).foldl f b) x=(l.take (i+1)).foldl f b:=by
 rw[List.take_add_one,h,List.foldl_append];rfl
structure rB where
 z:Int
noncomputable def il (p:rB):IE:=([.nilS,.sy (.int 0 p.z)],.leaf,0)
noncomputable def mf (p:rB) (K:KE):Bool:=K (.sy (.prow 0 0)) (.node .leaf (some (aD ([]:List Int))) .leaf) 1
def lZ (p:rB):Prop:=0≤p.z∧p.z≤1000
theorem YJ {s:IE} {K:KE} (w:rB) (e:∀t,il w=t→s=t:=by first|(intro t h;dsimp only[il]at h;subst h;exact rfl)|fail) (g:lZ w:=by first|((try dsimp only[lZ,oL,oN,Int.reduceNegSucc]);first|done|exact yg|trivial|assumption|omega|(constructor<;>omega))|fail) (h:mf w K=true):Cl s il lZ mf K:=wS w e g h
theorem Oa:aB Tryz.prog 156 0 (fg il (iu lZ mf)):=by
 intro us xs E ρ G F M nx w K R hE hs hd hk0 hr
 obtain⟨p,hk1⟩:=bj hk0
 obtain⟨e,hk2⟩:=ai hk1
 obtain⟨hpre,hk⟩:=ai hk2
 clear hk0 hk1 hk2
 have e1:us=(il p).1:=congrArg Prod.fst e
 have e2:M=(il p).2.1:=congrArg (fun x=>x.2.1) e
 have e3:nx=(il p).2.2:=congrArg (fun x=>x.2.2) e
 clear e
 subst e1;subst e2;subst e3
 obtain⟨h1,h2⟩:=hpre
 obtain⟨x0,ys,q0,q1,rfl⟩:=bf hd
 obtain⟨x1,ys2,q2,q3,rfl⟩:=bf q1
 obtain rfl:ys2=[]:=by simpa[ax] using q3.symm
 obtain rfl:x0= .slice none 0 0:=akH (q0.symm.trans rfl)
 obtain rfl:x1= .int .i64 p.z:=akH (q2.symm.trans rfl)
 obtain⟨n,hn⟩:=Int.eq_ofNat_of_zero_le h1
 rw[hn]
 have hk:T.set aQ (il p).2.1 0 (some (aD [])) (fun M'=>K (.sy (.prow 0 ([]:List Int).length)) M' (0+1))=true:=hk
 rcases Nat.eq_zero_or_pos n with h0|h0
 ·subst h0
  refine(callsIn_wide.1 (Ff w)).mono ?_
  rintro en w' ⟨rfl,rfl⟩
  exact vO hs hE hr ⟨rfl,.inl ⟨rfl,rfl⟩⟩ (Below.refl _ _) hk
 ·refine(callsIn_wide.1 (BF n h0 (by omega) w)).mono ?_
  rintro en w' ⟨cap,cur,rfl,r1,r2,r3,hB⟩
  exact vO hs hE hr ⟨rfl,.inr ⟨_,_,_,rfl,akB _,r3,Nat.zero_le _,r2,r1,rfl⟩⟩ hB hk
noncomputable def pS:NN:=bW Dg Oa [(0,8),(1,20)]
noncomputable def bd_l_vright':NV (cS [] [] [] 0x1e8f76b9467bae93ae108242b1a368e9c3c55421a9cbbd5e7a8acc455c25ed5ad608da79098df2d1b2183826197d92aefbf53cfdff92b453aab32aa863397b6cf792e1cd18c94):=⟨_,by conv=>rhs;reduce⟩
noncomputable abbrev sk:XC:=bd_l_vright'.1
noncomputable def ft_vright':NV (fun b0=>aA [] [] [b0] 0x7a01de1d243bc6841a7157406e6a6372ab9ff369909a1bb51adc453d7f13cf8cf97bfac6cc454b13560e521bbb319959e87aa59194f80a90ac3ad6a08ce539a7e0307756a8296062d5b752a):=⟨_,by conv=>rhs;reduce⟩
noncomputable abbrev KV:XF:=ft_vright'.1 sk
theorem BH:aK Tryz.prog 58 KV=true:=by kernel_rfl
structure vH where
 N:Int
 mh:Value
 m:List Int
 b0:Prop
 b1:Prop
 b2:Prop
 b3:Prop
 b4:Prop
 b5:Prop
 b6:Prop
 b7:Prop
 i:Int
noncomputable def Kj:bM:=ce bQ 0 (fun p:vH=>((.cons 29 (.sy (.int 0 p.i)) (.cons 28 (.sy (.int 0 (p.m.length:Int))) (.cons 27 (.sy (.imm p.mh 2 Int p.m am)) (.cons 3 (.ptr 0 0) .nil)))),(.node .leaf (some (o_F p.b0 p.b1 p.b2 p.b3 p.b4 p.b5 p.b6 p.b7)) .leaf),1)) (fun p=>NL p.m∧¬p.m=[]∧¬p.N=0∧0≤p.i∧p.i≤(p.m.length:Int)∧(p.b0↔(0:Int)∈p.m.take p.i.toNat)∧(p.b1↔(1:Int)∈p.m.take p.i.toNat)∧(p.b2↔(2:Int)∈p.m.take p.i.toNat)∧(p.b3↔(3:Int)∈p.m.take p.i.toNat)∧(p.b4↔(4:Int)∈p.m.take p.i.toNat)∧(p.b5↔(5:Int)∈p.m.take p.i.toNat)∧(p.b6↔(6:Int)∈p.m.take p.i.toNat)∧(p.b7↔(7:Int)∈p.m.take p.i.toNat)) (fun p K=>K 2 .nil .leaf 0)
theorem Dk:bg Tryz.prog 46 0 Kj true 0 sk:=lL (nat:=pS) (fun p:vH=>((p.m.length:Int) - p.i).toNat) cq (fun _ _ _ _=>rfl) fun p K hpre hK=>by
 dsimp only at hpre hK ⊢
 obtain⟨h0,h1,h2,g1,g2,g3⟩:=hpre
 have hl:=ah h0
 have ys {g:Prop} (h:g:=by first|(have hx:=Tc h0 hi;omega)|fail):g:=h
 have yd {g:Prop} (h:g:=by first|(exfalso;have hn:=wg h0.1 hi;simp_all;done)|fail):g:=h
 have yb {g:Prop} (h:g:=by first|(refine⟨h0,h1,h2,by omega,by omega,?_⟩;rw[show(p.i+1).toNat=p.i.toNat+1 by omega];rw[List.take_add_one,hi];simp only[Option.toList,akz,List.mem_singleton,g3];simp_all)|fail):g:=h
 have yq {g:Prop} (h:g:=by first|(exact jS (.mk p.N ..))|fail):g:=h
 exact wz
structure Rm where
 N:Int
 mh:Value
 m:List Int
theorem JH:aB Tryz.prog 58 0 (aO (fun p:Rm=>([ll p.N p.mh p.m],.leaf,0)) (fun p=>NL p.m∧¬p.m=[]∧¬p.N=0) (fun p K=>K (.bool true) .leaf 0)):=nF (nat:=pS) BH (dC Dk) fun p K hpre hK=>by
 dsimp only at hpre hK ⊢
 obtain⟨h0,h1,h2⟩:=hpre
 have hl:=ah h0
 have hm:=List.length_pos_iff.2 h1
 have yd {g:Prop} (h:g:=by first|(exfalso;omega)|fail):g:=h
 have yg {g:Prop} (h:g:=by first|(exact⟨h0,h1,h2,by omega,by omega,by simp⟩)|fail):g:=h
 have yq {g:Prop} (h:g:=by first|(refine cn (.mk p.N ..) (h:= ?_);exact wo)|fail):g:=h
 exact wz
noncomputable def ow:NN:=bW pS JH [(0,15)]
end Go.Proofs.Tryz
namespace Go.Proofs.Tryz
open Go Go.RowKit Go.Sy
open Go.Eng hiding aj
set_option maxRecDepth 1000000
set_option linter.unusedVariables false
set_option maxHeartbeats 4000000
attribute [local irreducible] aq
theorem IY {l:List Int} {x z:Int} (h: -1≤z∧(z= -1→∀y∈l,¬y=x)∧(¬z= -1→0≤z∧z<(l.length:Int)∧(∀y∈l.take z.toNat,¬y=x)∧∀y,l[z.toNat]?=some y→y=x)) (hz:z<0):l++[x]=dU l x:=by
 unfold dU
 rw[if_neg fun hx=>h.2.1 (by omega) x hx rfl]
theorem aaQ {l:List Int} {x z:Int} (h: -1≤z∧(z= -1→∀y∈l,¬y=x)∧(¬z= -1→0≤z∧z<(l.length:Int)∧(∀y∈l.take z.toNat,¬y=x)∧∀y,l[z.toNat]?=some y→y=x)) (hz:¬z<0):l.set z.toNat x=dU l x:=by
 obtain⟨h1,h2,_,h4⟩:=h.2.2 (by omega)
 have hlt:z.toNat<l.length:=by omega
 have hx:l[z.toNat]?=some l[z.toNat]:=List.getElem?_eq_getElem hlt
 have e:=h4 _ hx
 unfold dU
 rw[if_pos (by rw[←e];exact List.getElem_mem hlt),←e,List.set_getElem_self]
noncomputable def bd_l_xfeq179':NV (cS [] [] [] 0x47fec3439d37c000b7de1cae7a186123cd3ddb3534fb4a5e513eb5e1f57fbaa367a275f69ebbae37):=⟨_,by conv=>rhs;reduce⟩
noncomputable abbrev lI:XC:=bd_l_xfeq179'.1
noncomputable def ft_xfeq179':NV (fun b0=>aA [] [] [b0] 0x2256eccc3fc5bfe74470455c44e5d11dafc775a77a9c):=⟨_,by conv=>rhs;reduce⟩
noncomputable abbrev HG:XF:=ft_xfeq179'.1 lI
theorem yW:aK Tryz.prog 112 HG=true:=by kernel_rfl
structure sq where
 l:List Int
 y:Int
 i:Int
structure CP where
 z:Int
noncomputable def Hp:bM:=ce bQ 0 (fun p:sq=>((.cons 8 (.sy (.int 0 p.i)) (.cons 7 (.sy (.int 0 (p.l.length:Int))) (.cons 1 (.fn 179 [.ptr 1 0]) (.cons 0 (.sy (.prow 0 p.l.length)) .nil)))),(.node (.node .leaf (some (iC p.y)) .leaf) (some (aD p.l)) .leaf),2)) (fun p=>p.l.length≤1000000∧0≤p.i∧p.i≤(p.l.length:Int)∧(∀x∈p.l.take p.i.toNat,¬(x=p.y))) (fun p K=>ac (iP (∀x∈p.l,¬(x=p.y)) (K 2 .nil (.node (.node .leaf (some (iC p.y)) .leaf) (some (aD p.l)) .leaf) 2) true) (aj fun r:CP=>iP (0≤r.z∧r.z<(p.l.length:Int)∧(∀x∈p.l.take r.z.toNat,¬(x=p.y))∧∀x,p.l[r.z.toNat]?=some x→x=p.y) (K 1 (.cons 4 (.sy (.int 0 r.z)) .nil) (.node (.node .leaf (some (iC p.y)) .leaf) (some (aD p.l)) .leaf) 2) true))
theorem Bj:bg Tryz.prog 19 2 Hp true 0 lI:=lL (nat:=ow) (fun p:sq=>((p.l.length:Int) - p.i).toNat) cq (fun _ _ _ _=>rfl) fun p K hpre hK=>by
 dsimp only at hpre hK ⊢
 obtain⟨hK0,hKr0⟩:=ae hK
 have hK1:=hKr0
 obtain⟨g0,g1,g2,g3⟩:=hpre
 have nnx:=trivial
 have yp {g:Prop} (h:g:=by first|(rw[List.take_of_length_le (by omega)]at g3;exact g3)|(have hD:x1=p.y:=(by first|assumption|(simp_all;done)|(intro hq;simp_all;done)|(intro hq;exact(by assumption:∀y:Int,y∈p.gt→¬x1=y) _ hq rfl));exact⟨g1,by omega,g3,fun x hx=>by rw[hi]at hx;injection hx with hx;subst hx;exact hD⟩)|fail):g:=h
 have yb {g:Prop} (h:g:=by first|(refine⟨g0,by omega,by omega,?_⟩;rw[show(p.i+1).toNat=p.i.toNat+1 by omega,List.take_add_one,hi];have hD:¬(x1=p.y):=(by first|assumption|(simp_all;done)|(intro hq;simp_all;done)|(intro hq;exact(by assumption:∀y:Int,y∈p.gt→¬x1=y) _ hq rfl));intro x hx;rcases akz.1 hx with hx|hx;exact g3 x hx;simp only[Option.toList,List.mem_singleton]at hx;subst hx;exact hD)|fail):g:=h
 exact wz
structure Mw where
 l:List Int
 y:Int
structure Ma where
 z:Int
theorem Ha:aB Tryz.prog 112 2 (aO (fun p:Mw=>([.sy (.prow 0 p.l.length),.fn 179 [.ptr 1 0]],(.node (.node .leaf (some (iC p.y)) .leaf) (some (aD p.l)) .leaf),2)) (fun p=>p.l.length≤1000000) (fun p K=>aj fun r:Ma=>iP (-1≤r.z∧(r.z= -1→∀x∈p.l,¬(x=p.y))∧(¬r.z= -1→0≤r.z∧r.z<(p.l.length:Int)∧(∀x∈p.l.take r.z.toNat,¬(x=p.y))∧∀x,p.l[r.z.toNat]?=some x→x=p.y)) (K (.sy (.int 0 r.z)) (.node (.node .leaf (some (iC p.y)) .leaf) (some (aD p.l)) .leaf) 2) true)):=nF (nat:=ow) yW (dC Bj) fun p K hpre hK=>by
 dsimp only at hpre hK ⊢
 have h1:=hpre
 have yg {g:Prop} (h:g:=by first|(exact⟨h1,by omega,by omega,by simp⟩)|fail):g:=h
 have yp {g:Prop} (h:g:=by first|(first|exact⟨by decide,fun _=>by assumption,fun h=>absurd rfl h⟩|exact⟨by omega,fun h=>by omega,fun _=>by assumption⟩)|fail):g:=h
 exact wz
noncomputable def nh:NN:=fK ow Ha [(0,25),(1,13)] (fun us M=>Nat.beq (tE us 1) 179)
noncomputable abbrev qz:XC:=lI
noncomputable def ft_xfeq113':NV (fun b0=>aA [] [] [b0] 0x2256eccc3fc5bfe74470455c44e5d11dafc775a77a9c):=⟨_,by conv=>rhs;reduce⟩
noncomputable abbrev HH:XF:=ft_xfeq113'.1 qz
theorem yX:aK Tryz.prog 112 HH=true:=by kernel_rfl
structure sr where
 l:List Int
 y:Int
 i:Int
structure CQ where
 z:Int
noncomputable def Hq:bM:=ce bQ 0 (fun p:sr=>((.cons 8 (.sy (.int 0 p.i)) (.cons 7 (.sy (.int 0 (p.l.length:Int))) (.cons 1 (.fn 113 [.ptr 1 0]) (.cons 0 (.sy (.prow 0 p.l.length)) .nil)))),(.node (.node .leaf (some (iC p.y)) .leaf) (some (aD p.l)) .leaf),2)) (fun p=>p.l.length≤1000000∧0≤p.i∧p.i≤(p.l.length:Int)∧(∀x∈p.l.take p.i.toNat,¬(x=p.y))) (fun p K=>ac (iP (∀x∈p.l,¬(x=p.y)) (K 2 .nil (.node (.node .leaf (some (iC p.y)) .leaf) (some (aD p.l)) .leaf) 2) true) (aj fun r:CQ=>iP (0≤r.z∧r.z<(p.l.length:Int)∧(∀x∈p.l.take r.z.toNat,¬(x=p.y))∧∀x,p.l[r.z.toNat]?=some x→x=p.y) (K 1 (.cons 4 (.sy (.int 0 r.z)) .nil) (.node (.node .leaf (some (iC p.y)) .leaf) (some (aD p.l)) .leaf) 2) true))
theorem Bk:bg Tryz.prog 19 2 Hq true 0 qz:=lL (nat:=nh) (fun p:sr=>((p.l.length:Int) - p.i).toNat) cq (fun _ _ _ _=>rfl) fun p K hpre hK=>by
 dsimp only at hpre hK ⊢
 obtain⟨hK0,hKr0⟩:=ae hK
 have hK1:=hKr0
 obtain⟨g0,g1,g2,g3⟩:=hpre
 have nnx:=trivial
 have yp {g:Prop} (h:g:=by first|(rw[List.take_of_length_le (by omega)]at g3;exact g3)|(have hD:x1=p.y:=(by first|assumption|(simp_all;done)|(intro hq;simp_all;done)|(intro hq;exact(by assumption:∀y:Int,y∈p.gt→¬x1=y) _ hq rfl));exact⟨g1,by omega,g3,fun x hx=>by rw[hi]at hx;injection hx with hx;subst hx;exact hD⟩)|fail):g:=h
 have yb {g:Prop} (h:g:=by first|(refine⟨g0,by omega,by omega,?_⟩;rw[show(p.i+1).toNat=p.i.toNat+1 by omega,List.take_add_one,hi];have hD:¬(x1=p.y):=(by first|assumption|(simp_all;done)|(intro hq;simp_all;done)|(intro hq;exact(by assumption:∀y:Int,y∈p.gt→¬x1=y) _ hq rfl));intro x hx;rcases akz.1 hx with hx|hx;exact g3 x hx;simp only[Option.toList,List.mem_singleton]at hx;subst hx;exact hD)|fail):g:=h
 exact wz
structure My where
 l:List Int
 y:Int
structure Mb where
 z:Int
theorem Hb:aB Tryz.prog 112 2 (aO (fun p:My=>([.sy (.prow 0 p.l.length),.fn 113 [.ptr 1 0]],(.node (.node .leaf (some (iC p.y)) .leaf) (some (aD p.l)) .leaf),2)) (fun p=>p.l.length≤1000000) (fun p K=>aj fun r:Mb=>iP (-1≤r.z∧(r.z= -1→∀x∈p.l,¬(x=p.y))∧(¬r.z= -1→0≤r.z∧r.z<(p.l.length:Int)∧(∀x∈p.l.take r.z.toNat,¬(x=p.y))∧∀x,p.l[r.z.toNat]?=some x→x=p.y)) (K (.sy (.int 0 r.z)) (.node (.node .leaf (some (iC p.y)) .leaf) (some (aD p.l)) .leaf) 2) true)):=nF (nat:=nh) yX (dC Bk) fun p K hpre hK=>by
 dsimp only at hpre hK ⊢
 have h1:=hpre
 have yg {g:Prop} (h:g:=by first|(exact⟨h1,by omega,by omega,by simp⟩)|fail):g:=h
 have yp {g:Prop} (h:g:=by first|(first|exact⟨by decide,fun _=>by assumption,fun h=>absurd rfl h⟩|exact⟨by omega,fun h=>by omega,fun _=>by assumption⟩)|fail):g:=h
 exact wz
noncomputable def rR:NN:=fK nh Hb [(0,25),(1,13)] (fun us M=>Nat.beq (tE us 1) 113)
noncomputable def ft_take':NV (aA [] [] [] 0x4b5e695703950e0b93a0285665607d3a66e8e0e955e5a038cd89bd03cab1e7228019f1749fb632e443a02ebd4605614bb0d8135f419f07551b9c42ab6):=⟨_,by conv=>rhs;reduce⟩
noncomputable abbrev XD:XF:=ft_take'.1
theorem HL:aK Tryz.prog 161 XD=true:=by kernel_rfl
structure ahb where
 l:List Int
 x:Int
structure agl where
 o:List Int
theorem VO:aB Tryz.prog 161 0 (aO (fun p:ahb=>([.sy (.prow 0 p.l.length),eu p.x],(.node .leaf (some (aD p.l)) .leaf),1)) (fun p=>p.l.length≤1000000∧0≤p.x∧p.x<8) (fun p K=>aj fun r:agl=>iP (r.o=dU p.l p.x) (K (.sy (.prow 0 r.o.length)) (.node .leaf (some (aD r.o)) .leaf) 1) true)):=nE (nat:=rR) HL fun p K hpre hK=>by
 dsimp only at hpre hK ⊢
 obtain⟨h1,h2,h3⟩:=hpre
 have ys {g:Prop} (h:g:=by first|(simp[bU];omega;done)|((try rfl)<;>simp;done)|(first|omega|(constructor<;>omega)|(simp;omega);done)|fail):g:=h
 have yg {g:Prop} (h:g:=by first|(first|omega|assumption|exact⟨by omega,by omega⟩)|fail):g:=h
 have yp {g:Prop} (h:g:=by first|(first|(exfalso;omega)|exact IY (by assumption) (by omega)|exact aaQ (by assumption) (by omega))|fail):g:=h
 have yq {g:Prop} (h:g:=by first|(refine wX [_] (by first|exact sd|exact ys) ?_;exact wz)|(refine wX _ (by first|exact sd|exact ys) ?_;exact wz)|fail):g:=h
 exact wz
noncomputable def Ax:NN:=bW rR VO [(0,25),(1,15)]
noncomputable def ft_concat':NV (aA [] [] [] 0x5163ac94680ecc6a098cbefddcc6d582268b452b53f13b3ab1840b6a25c60d4858621d15bcc94a9547cc7727700657112644073e21be54bd889b605955d98055932bd4e727f811302e8c366edf81398c520ff85468f6d1ba4f9e4727b3db1233bac8b5):=⟨_,by conv=>rhs;reduce⟩
noncomputable abbrev Lo:XF:=ft_concat'.1
theorem BO:aK Tryz.prog 125 Lo=true:=by kernel_rfl
structure Rx where
 a:List Int
 b:List Int
structure Rb where
 h:Value
 o:List Int
theorem JU:aB Tryz.prog 125 3 (aO (fun p:Rx=>([.sl 0 0 2 (.ex 2)],(.node (.node .leaf (some (aD p.a)) .leaf) (some (.blk false 43 1 [[.sy (.prow 1 p.a.length)],[.sy (.prow 2 p.b.length)]])) (.node .leaf (some (aD p.b)) .leaf)),3)) (fun p=>p.a.length≤400∧p.b.length≤400) (fun p K=>aj fun r:Rb=>iP (r.o=p.a++p.b∧r.o.length=p.a.length+p.b.length) (K (.sy (.imm r.h 2 Int r.o am)) (.node (.node .leaf (some (aD p.a)) .leaf) (some (.blk false 43 1 [[.sy (.prow 1 p.a.length)],[.sy (.prow 2 p.b.length)]])) (.node .leaf (some (aD p.b)) .leaf)) 3) true)):=nE (nat:=Ax) BO fun p K hpre hK=>by
 dsimp only at hpre hK ⊢
 obtain⟨h1,h2⟩:=hpre
 have nnl:=trivial
 have ys {g:Prop} (h:g:=by first|(first|rfl|simp;done)|(simp[bU];omega;done)|fail):g:=h
 have yp {g:Prop} (h:g:=by first|(simp[*])|fail):g:=h
 have ye {g:Prop} (h:g:=by first|(exact cQ hK (.mk _ [] ..))|fail):g:=h
 have yq {g:Prop} (h:g:=by first|(refine YJ (.mk ..) (h:= ?_);dsimp only[mf];exact wo)|(refine wX p.b (by first|exact sd|exact ys) ?_;exact wz)|(refine wX p.a (by first|exact sd|exact ys) ?_;exact wz)|fail):g:=h
 exact wz
noncomputable def oz:NN:=bW Ax JU [(0,5)]
noncomputable def bd_l_xifirst':NV (cS [] [] [] 0x6ffff681cbbe03460927abc52b9efee9a1c48c4a38c9f5f58da4620335f73f1a357d65b1b4856c78):=⟨_,by conv=>rhs;reduce⟩
noncomputable abbrev qx:XC:=bd_l_xifirst'.1
noncomputable def ft_xifirst':NV (fun b0=>aA [] [] [b0] 0x32235c6870aaf34dce550f7ca9f0dbe0834bc51cb8b1):=⟨_,by conv=>rhs;reduce⟩
noncomputable abbrev HE:XF:=ft_xifirst'.1 qx
theorem yV:aK Tryz.prog 112 HE=true:=by kernel_rfl
structure so where
 h:Value
 l:List Int
 q:Nat→Value
 mh:Value
 m:List Int
 me:Int
 susp:List Int
 going:List Int
 i:Int
structure CO where
 z:Int
noncomputable def Ho:bM:=ce bQ 0 (fun p:so=>((.cons 8 (.sy (.int 0 p.i)) (.cons 7 (.sy (.int 0 (p.l.length:Int))) (.cons 1 (.fn 127 [.ptr 0 0]) (.cons 0 (.sy (.imm p.h 2 Int p.l am)) .nil)))),(.node (.node (.node .leaf (some (aD p.going)) .leaf) (some (Ar p.q p.mh p.m p.me 2 p.susp.length 3 p.going.length)) .leaf) (some (mo 36 1)) (.node .leaf (some (aD p.susp)) .leaf)),4)) (fun p=>p.l.length≤1000000∧p.susp.length≤1000000∧p.going.length≤1000000∧0≤p.i∧p.i≤(p.l.length:Int)∧(∀x∈p.l.take p.i.toNat,¬(¬(x∈p.susp∨x∈p.going)))) (fun p K=>ac (iP (∀x∈p.l,¬(¬(x∈p.susp∨x∈p.going))) (K 2 .nil (.node (.node (.node .leaf (some (aD p.going)) .leaf) (some (Ar p.q p.mh p.m p.me 2 p.susp.length 3 p.going.length)) .leaf) (some (mo 36 1)) (.node .leaf (some (aD p.susp)) .leaf)) 4) true) (aj fun r:CO=>iP (0≤r.z∧r.z<(p.l.length:Int)∧(∀x∈p.l.take r.z.toNat,¬(¬(x∈p.susp∨x∈p.going)))∧∀x,p.l[r.z.toNat]?=some x→¬(x∈p.susp∨x∈p.going)) (K 1 (.cons 4 (.sy (.int 0 r.z)) .nil) (.node (.node (.node .leaf (some (aD p.going)) .leaf) (some (Ar p.q p.mh p.m p.me 2 p.susp.length 3 p.going.length)) .leaf) (some (mo 36 1)) (.node .leaf (some (aD p.susp)) .leaf)) 4) true))
theorem Bi:bg Tryz.prog 19 4 Ho true 0 qx:=lL (nat:=oz) (fun p:so=>((p.l.length:Int) - p.i).toNat) cq (fun _ _ _ _=>rfl) fun p K hpre hK=>by
 dsimp only at hpre hK ⊢
 obtain⟨hK0,hKr0⟩:=ae hK
 have hK1:=hKr0
 obtain⟨g0,g00,g000,g1,g2,g3⟩:=hpre
 have nnx:=trivial
 have nnh:=trivial
 have nnq:=trivial
 have yp {g:Prop} (h:g:=by first|(rw[List.take_of_length_le (by omega)]at g3;exact g3)|(have hD:¬(x1∈p.susp∨x1∈p.going):=(by first|assumption|(simp_all;done)|(intro hq;simp_all;done)|(intro hq;exact(by assumption:∀y:Int,y∈p.gt→¬x1=y) _ hq rfl));exact⟨g1,by omega,g3,fun x hx=>by rw[hi1]at hx;injection hx with hx;subst hx;exact hD⟩)|fail):g:=h
 have yb {g:Prop} (h:g:=by first|(refine⟨g0,g00,g000,by omega,by omega,?_⟩;rw[show(p.i+1).toNat=p.i.toNat+1 by omega,List.take_add_one,hi1];have hD:¬(¬(x1∈p.susp∨x1∈p.going)):=(by first|assumption|(simp_all;done)|(intro hq;simp_all;done)|(intro hq;exact(by assumption:∀y:Int,y∈p.gt→¬x1=y) _ hq rfl));intro x hx;rcases akz.1 hx with hx|hx;exact g3 x hx;simp only[Option.toList,List.mem_singleton]at hx;subst hx;exact hD)|fail):g:=h
 exact wz
structure Mv where
 h:Value
 l:List Int
 q:Nat→Value
 mh:Value
 m:List Int
 me:Int
 susp:List Int
 going:List Int
structure LZ where
 z:Int
theorem GZ:aB Tryz.prog 112 4 (aO (fun p:Mv=>([.sy (.imm p.h 2 Int p.l am),.fn 127 [.ptr 0 0]],(.node (.node (.node .leaf (some (aD p.going)) .leaf) (some (Ar p.q p.mh p.m p.me 2 p.susp.length 3 p.going.length)) .leaf) (some (mo 36 1)) (.node .leaf (some (aD p.susp)) .leaf)),4)) (fun p=>p.l.length≤1000000∧p.susp.length≤1000000∧p.going.length≤1000000) (fun p K=>aj fun r:LZ=>iP (-1≤r.z∧(r.z<0→∀x∈p.l,¬(¬(x∈p.susp∨x∈p.going)))∧(0≤r.z→0≤r.z∧r.z<(p.l.length:Int)∧(∀x∈p.l.take r.z.toNat,¬(¬(x∈p.susp∨x∈p.going)))∧∀x,p.l[r.z.toNat]?=some x→¬(x∈p.susp∨x∈p.going))) (K (.sy (.int 0 r.z)) (.node (.node (.node .leaf (some (aD p.going)) .leaf) (some (Ar p.q p.mh p.m p.me 2 p.susp.length 3 p.going.length)) .leaf) (some (mo 36 1)) (.node .leaf (some (aD p.susp)) .leaf)) 4) true)):=nF (nat:=oz) yV (dC Bi) fun p K hpre hK=>by
 dsimp only at hpre hK ⊢
 obtain⟨h1,h2,h3⟩:=hpre
 have yg {g:Prop} (h:g:=by first|(exact⟨h1,h2,h3,by omega,by omega,by simp⟩)|fail):g:=h
 have yp {g:Prop} (h:g:=by first|(first|exact⟨by decide,fun _=>by assumption,fun h=>absurd h (by decide)⟩|exact⟨by omega,fun h=>by omega,fun _=>by assumption⟩)|fail):g:=h
 exact wz
noncomputable def ng:NN:=bW oz GZ [(0,23),(1,13)]
theorem adu {m d add o:List Int} (h8:∀x∈add,0≤x∧x<8) (hm:NL m) (ho:o=add.foldl dU (m.filter (fun x=>decide (¬x∈d)))∧o.length≤8) (hq:¬¬m.length / 2+1≤(m.filter (fun x=>decide (x∈o))).length):jr m d add=some o∧NL o:=by
 obtain⟨ho,_⟩:=ho
 subst ho
 refine⟨?_,qW (ib hm) h8⟩
 unfold jr
 rw[if_pos (Classical.not_not.1 hq)]
theorem ah6 {m d add o:List Int} (ho:o=add.foldl dU (m.filter (fun x=>decide (¬x∈d)))∧o.length≤8) (hq:¬m.length / 2+1≤(m.filter (fun x=>decide (x∈o))).length):jr m d add=none:=by
 obtain⟨ho,_⟩:=ho
 subst ho
 unfold jr
 rw[if_neg hq]
noncomputable def bd_l_next':NV (cS [] [] [] 0x6c4304038dd60ed881c9f38b90350f2c8730426f20165e1ef13018f356d9932628c02f4f98b314e2d):=⟨_,by conv=>rhs;reduce⟩
noncomputable abbrev yG:XC:=bd_l_next'.1
noncomputable def ft_next':NV (fun b0=>aA [] [] [b0] 0x64601165b65d51f6a700fe10cd851355fc96f834762e3046acd5f97c5f81423c04d6fb3286b7893a8a420de930b173bdfab493bac12ad3fd34fa427c3685dfd27601b1d61154a02fb2dbfa53e01bb1777260fd13a597ecfe20d26c42512a68bffc352f9b27964b8171fb0717aeb62dd7a39295b8c3bddfe19ff66ac8037911a6cfef4ca7e2bfa260dc1c456a72b1008ee14aac87b0e45fa770):=⟨_,by conv=>rhs;reduce⟩
noncomputable abbrev XK:XF:=ft_next'.1 yG
theorem HU:aK Tryz.prog 126 XK=true:=by kernel_rfl
structure CZ where
 N:Int
 mh:Value
 m:List Int
 dh:Value
 d:List Int
 add:List Int
 o:List Int
 i:Int
structure QH where
 o:List Int
noncomputable def WS:bM:=ce bQ 0 (fun p:CZ=>((.cons 30 (.sy (.int 0 p.i)) (.cons 29 (.sy (.int 0 (p.add.length:Int))) (.cons 28 (.sy (.prow 0 p.add.length)) (.cons 9 (.sy (.prow 3 p.o.length)) (.cons 6 (.ptr 2 0) (.cons 3 (.ptr 1 0) .nil)))))),(.node (.node (.node .leaf (some (aD p.o)) .leaf) (some (cX p.N p.mh p.m)) .leaf) (some (aD p.add)) (.node .leaf (some (.blk false 45 3 [[.int 1 (.ofNat 0),.int 3 (.ofNat 0),.nilS]])) .leaf)),4)) (fun p=>NL p.m∧¬p.m=[]∧¬p.N=0∧p.N<4294967295∧0≤p.N∧p.d.length≤1000∧p.add.length≤1000∧(∀x∈p.add,0≤x∧x<8)∧NL (p.m.filter (fun x=>decide (¬x∈p.d)))∧0≤p.i∧p.i≤(p.add.length:Int)∧p.o=(p.add.take p.i.toNat).foldl dU (p.m.filter (fun x=>decide (¬x∈p.d)))) (fun p K=>aj fun r:QH=>iP (r.o=p.add.foldl dU (p.m.filter (fun x=>decide (¬x∈p.d)))∧r.o.length≤8) (K 3 (.cons 9 (.sy (.prow 3 r.o.length)) (.cons 6 (.ptr 2 0) (.cons 3 (.ptr 1 0) .nil))) (.node (.node (.node .leaf (some (aD r.o)) .leaf) (some (cX p.N p.mh p.m)) .leaf) (some (aD p.add)) (.node .leaf (some (.blk false 45 3 [[.int 1 (.ofNat 0),.int 3 (.ofNat 0),.nilS]])) .leaf)) 4) true)
theorem Km:bg Tryz.prog 56 1 WS true 0 yG:=lL (nat:=ng) (fun p:CZ=>((p.add.length:Int) - p.i).toNat) cq (fun _ _ _ _=>rfl) fun p K hpre hK=>by
 dsimp only at hpre hK ⊢
 obtain⟨h1,h2,h3,h4,h5,h6,h7,h8,g0,g1,g2,g3⟩:=hpre
 have hol:=ah (qW (l:=p.m.filter (fun x=>decide (¬x∈p.d))) (add:=p.add.take p.i.toNat) g0 (fun x hx=>h8 x (List.mem_of_mem_take hx)))
 rw[←g3]at hol
 have nnh:=trivial
 have yg {g:Prop} (h:g:=by first|(first|assumption|(refine⟨?_,?_,?_⟩<;>first|omega|(have hx:=h8 _ (akp hi);omega)))|fail):g:=h
 have yp {g:Prop} (h:g:=by first|(have e:p.o=p.add.foldl dU (p.m.filter (fun x=>decide (¬x∈p.d))):=(by rw[g3,List.take_of_length_le (by omega)]);exact⟨e,by rw[e];exact ah (qW g0 h8)⟩)|fail):g:=h
 have yb {g:Prop} (h:g:=by first|(refine⟨h1,h2,h3,h4,h5,h6,h7,h8,g0,by omega,by omega,?_⟩;rw[show(p.i+1).toNat=p.i.toNat+1 by omega,hi,g3];exact Ik hi1)|fail):g:=h
 have yq {g:Prop} (h:g:=by first|(exact jS (.mk _ _ _ p.dh p.d ..))|fail):g:=h
 exact wz
structure ahh where
 N:Int
 mh:Value
 m:List Int
 dh:Value
 d:List Int
 add:List Int
structure agt where
 nn:Int
 h:Value
 o:List Int
theorem VU:aB Tryz.prog 126 1 (aO (fun p:ahh=>([(ll p.N p.mh p.m),.sy (.imm p.dh 2 Int p.d am),.sy (.prow 0 p.add.length)],(.node .leaf (some (aD p.add)) .leaf),1)) (fun p=>NL p.m∧¬p.m=[]∧¬p.N=0∧p.N<4294967295∧0≤p.N∧p.d.length≤1000∧p.add.length≤1000∧(∀x∈p.add,0≤x∧x<8)) (fun p K=>ac (aj fun r:agt=>iP (jr p.m p.d p.add=some r.o∧NL r.o) (K (.tup [(ll r.nn r.h r.o),.int 0 (.ofNat 0)]) (.node .leaf (some (aD p.add)) .leaf) 1) true) (iP (jr p.m p.d p.add=none) (K (.tup [.agg [.int 1 (.ofNat 0),.int 3 (.ofNat 0),.nilS],.int 0 (.ofNat 17)]) (.node .leaf (some (aD p.add)) .leaf) 1) true))):=nF (nat:=ng) HU (dC Km) fun p K hpre hK=>by
 dsimp only at hpre hK ⊢
 obtain⟨hK0,hKr0⟩:=ae hK
 have hK1:=hKr0
 obtain⟨G1,G2,G3,G4,G5,G6,G7,G8⟩:=hpre
 have hl:=ah G1
 have hm:=List.length_pos_iff.2 G2
 have nnx:=trivial
 have nnr:=trivial
 have nnq:=trivial
 have ys {g:Prop} (h:g:=by first|(first|rfl|simp;done)|fail):g:=h
 have yd {g:Prop} (h:g:=by first|(exfalso;omega)|fail):g:=h
 have yg {g:Prop} (h:g:=by first|(refine⟨?_,?_,?_⟩<;>first|assumption|omega)|(refine⟨G1,G2,G3,G4,G5,G6,G7,G8,ib G1,by omega,by omega,?_⟩;simp_all)|fail):g:=h
 have yp {g:Prop} (h:g:=by first|(exact adu G8 G1 (by assumption) (by assumption))|(exact ah6 (by assumption) (by assumption))|fail):g:=h
 have yq {g:Prop} (h:g:=by first|(refine Iv (.mk ..) (h:= ?_);dsimp only[iA,nc,rX];exact wo)|(refine cn (.mk _ _ _ p.dh p.d ..) (h:= ?_);exact wo)|(refine LI (.mk ..) (h:= ?_);dsimp only[jn,oi,uQ];exact wo)|fail):g:=h
 exact wz
noncomputable def td:NN:=bW ng VU [(0,15),(1,23),(2,25)]
noncomputable def bd_l_eqG':NV (cS [] [] [] 0xfbd61ecac60d94697b0bf1b7b848279fbe5b7b316d12f690ad86ddb1adcce37c79887cc240e1e601):=⟨_,by conv=>rhs;reduce⟩
noncomputable abbrev CC:XC:=bd_l_eqG'.1
noncomputable def ft_eqG':NV (fun b0=>aA [] [] [b0] 0x2e7fdf7ed5414906445e6c8c04d5ebdbba78b30820e902eb8f2d8309805b1dc833cbc):=⟨_,by conv=>rhs;reduce⟩
noncomputable abbrev aff:XF:=ft_eqG'.1 CC
theorem Ll:aK Tryz.prog 52 aff=true:=by kernel_rfl
structure Gq where
 h1:Value
 l1:List Int
 h2:Value
 l2:List Int
 i:Int
noncomputable def aeq:bM:=ce bQ 0 (fun p:Gq=>((.cons 13 (.sy (.int 0 p.i)) (.cons 12 (.sy (.int 0 (p.l1.length:Int))) (.cons 1 (.sy (.imm p.h2 2 Int p.l2 am)) (.cons 0 (.sy (.imm p.h1 2 Int p.l1 am)) .nil)))),.leaf,0)) (fun p=>p.l1.length≤1000000∧p.l1.length=p.l2.length∧0≤p.i∧p.i≤(p.l1.length:Int)∧p.l1.take p.i.toNat=p.l2.take p.i.toNat) (fun p K=>ac (iP (p.l1=p.l2) (K 2 .nil .leaf 0) true) (iP (¬p.l1=p.l2) (K 1 (.cons 4 (.bool false) .nil) .leaf 0) true))
theorem OV:bg Tryz.prog 26 0 aeq true 0 CC:=lL (nat:=td) (fun p:Gq=>((p.l1.length:Int) - p.i).toNat) cq (fun _ _ _ _=>rfl) fun p K hpre hK=>by
 dsimp only at hpre hK ⊢
 obtain⟨hK0,hKr0⟩:=ae hK
 have hK1:=hKr0
 obtain⟨g0,g1,g2,g3,g4⟩:=hpre
 have nnh:=trivial
 have yp {g:Prop} (h:g:=by first|(rw[List.take_of_length_le (by omega),List.take_of_length_le (by omega)]at g4;exact g4)|(intro e;rw[e]at hi1;rw[hi1]at hi;injection hi with e9;exact absurd e9 (by assumption))|fail):g:=h
 have yb {g:Prop} (h:g:=by first|(refine⟨g0,g1,by omega,by omega,?_⟩;rw[show(p.i+1).toNat=p.i.toNat+1 by omega,List.take_add_one,List.take_add_one,g4,hi1,hi];simp_all)|fail):g:=h
 exact wz
structure ajo where
 h1:Value
 l1:List Int
 h2:Value
 l2:List Int
structure aiZ where
 q:Prop
theorem ad0:aB Tryz.prog 52 0 (aO (fun p:ajo=>([.sy (.imm p.h1 2 Int p.l1 am),.sy (.imm p.h2 2 Int p.l2 am)],.leaf,0)) (fun p=>p.l1.length≤1000000) (fun p K=>aj fun r:aiZ=>iP (r.q↔p.l1=p.l2) (K (.sy (.bool r.q)) .leaf 0) true)):=nF (nat:=td) Ll (dC OV) fun p K hpre hK=>by
 dsimp only at hpre hK ⊢
 have h1:=hpre
 have yg {g:Prop} (h:g:=by first|(exact⟨h1,by omega,by omega,by omega,by simp⟩)|fail):g:=h
 have yp {g:Prop} (h:g:=by first|(first|(exact⟨fun _=>by assumption,fun _=>rfl⟩)|exact⟨fun h=>by simp at h,fun h=>absurd h (by assumption)⟩|exact⟨fun h=>by simp at h,fun h=>absurd (congrArg List.length h) (by omega)⟩)|fail):g:=h
 exact wz
noncomputable def EL:NN:=bW td ad0 [(0,23),(1,23)]
noncomputable def ft_wish':NV (fun e0=>aA [e0] [] [] 0x63d930d43da5915ab4248fe232471978beb23134b6adf492d38578c095ad0bd9d80b3db97eb828c8a211f2966f14d49f44bc3c0c6c71a497b02ec075a085b3ec2c5ef65b53788042138126186ab462088243ee8facdc2f1ad9222b470ae8dd842e9e1ef0d082e621134d44ca7e441275a9460a1fcb22fbaa2f9980d3279e24a95c7c53382f7c7e6bfc6e5554f7d38f65f72d46513272eb9bd1543ef1887fe7e7a0f75b655d66340636c68289):=⟨_,by conv=>rhs;reduce⟩
noncomputable abbrev XA:XF:=ft_wish'.1 (eB 52 2 am)
theorem HI:aK Tryz.prog 98 XA=true:=by kernel_rfl
structure ag9 where
 q:Nat→Value
 N:Int
 mh:Value
 m:List Int
 susp:List Int
 joins:List Int
 going:List Int
structure agj where
 h:Value
 o:List Int
theorem VM:aB Tryz.prog 98 4 (aO (fun p:ag9=>([.ptr 0 0],(.node (.node (.node .leaf (some (aD p.going)) .leaf) (some (aD p.susp)) .leaf) (some (o_u p.N p.mh p.m p.q p.susp.length p.joins.length p.going.length)) (.node .leaf (some (aD p.joins)) .leaf)),4)) (fun p=>NL p.m∧¬p.m=[]∧¬p.N=0∧p.N<4294967295∧0≤p.N∧p.susp.length≤400∧p.going.length≤400∧p.joins.length≤400∧(∀x∈p.joins,0≤x∧x<8)) (fun p K=>aj fun r:agj=>iP (r.o=cN p.m p.susp p.joins p.going∧NL r.o) (K (.sy (.imm r.h 2 Int r.o am)) (.node (.node (.node .leaf (some (aD p.going)) .leaf) (some (aD p.susp)) .leaf) (some (o_u p.N p.mh p.m p.q p.susp.length p.joins.length p.going.length)) (.node .leaf (some (aD p.joins)) .leaf)) 4) true)):=nE (nat:=EL) HI fun p K hpre hK=>by
 dsimp only at hpre hK ⊢
 obtain⟨G1,G2,G3,G4,G5,G6,G7,G8,G9⟩:=hpre
 have hl:=ah G1
 have nnx:=trivial
 have nnr:=trivial
 have ys {g:Prop} (h:g:=by first|(first|rfl|simp;done)|fail):g:=h
 have yg {g:Prop} (h:g:=by first|(first|exact⟨by omega,by omega⟩|assumption)|(first|assumption|(refine⟨?_,?_,?_,?_,?_,?_,?_,?_⟩<;>first|assumption|omega|(simp;done)))|fail):g:=h
 have yp {g:Prop} (h:g:=by first|(unfold cN;simp_all)|fail):g:=h
 have yz {g:Prop} (h:g:=by first|(first|rfl|simp;done)|fail):g:=h
 have yq {g:Prop} (h:g:=by first|(refine cn (.mk _ _ _ _ [] ..) (h:= ?_);exact wo)|fail):g:=h
 exact wz
noncomputable def Av:NN:=iD EL VM [(0,4)] [3,4,5,6,8,10,14,15,16,17,18,19,20]
def afC (x:Int):List PL:=[.sint 0 x]
noncomputable abbrev pq (x0:List Int):AObj:=.prow 3 1 Int x0 afC
def aY (x:Int×Int):List PL:=[.sint 1 x.1,.int 2 (.ofNat 1)]
def aX (x:Int×Int):List PL:=[.sint 0 x.2]
def CV (l o:List Int) (i j:Int):Prop:=∃A x B C,o=A++x::(B++C)∧A.length=j.toNat∧A.length+B.length=i.toNat∧(A++B).Pairwise (· ≤ ·)∧(∀y∈B,x≤y)∧o.Perm l
def xz (l o:List Int) (i:Int):Prop:=∃A C,o=A++C∧A.length=i.toNat∧A.Pairwise (· ≤ ·)∧o.Perm l
theorem KI {l:List Int} (h:1≤l.length):xz l l (0+1):=by
 cases l with
 |nil=>simp at h
 |cons x l=>exact⟨[x],l,rfl,rfl,by simp,List.Perm.refl _⟩
theorem aeZ {l o:List Int} {i:Int} (h0:0≤i) (h:xz l o i) (hi:i<(o.length:Int)):CV l o i i:=by
 obtain⟨A,C,rfl,h1,h2,h3⟩:=h
 cases C with
 |nil=>simp at hi;omega
 |cons x C=>exact⟨A,x,[],C,rfl,h1,by simpa using h1,by simpa using h2,by simp,h3⟩
theorem OZ {l o:List Int} {i j x a:Int} (hj:0<j) (h:CV l o i j) (hx:o[j.toNat]?=some x) (ha:o[(j - 1).toNat]?=some a) (hlt:x<a):CV l ((o.set j.toNat a).set (j - 1).toNat x) i (j - 1):=by
 obtain⟨A,x',B,C,rfl,h1,h2,h3,h4,h5⟩:=h
 have e1:x'=x:=by
  rw[List.getElem?_append_right (by omega),h1,Nat.sub_self]at hx
  simpa using hx
 subst e1
 rcases List.eq_nil_or_concat A with rfl|⟨A',a',rfl⟩
 ·simp at h1;omega
 simp only[List.concat_eq_append,akk,List.length_singleton]at h1 h2
 have hj1:(j - 1).toNat=A'.length:=by omega
 have e2:a'=a:=by
  rw[hj1,List.concat_eq_append,akt,List.getElem?_append_right (akB _),Nat.sub_self]at ha
  simpa using ha
 subst e2
 have e3:((A'.concat a'++x'::(B++C)).set j.toNat a').set (j - 1).toNat x'=A'++x'::((a'::B)++C):=by
  rw[hj1,show j.toNat=A'.length+1 by omega]
  simp[List.set_append]
 rw[e3]
 refine⟨A',x',a'::B,C,rfl,by omega,by simp;omega,by simpa using h3,fun y hy=> ?_,?_⟩
 ·rcases List.mem_cons.1 hy with rfl|hy
  ·omega
  ·exact h4 y hy
 ·refine List.Perm.trans ?_ h5
  simp only[List.concat_eq_append,akt,aks,aku]
  exact List.Perm.append_left _ (List.Perm.swap _ _ _)
theorem Fa {l o:List Int} {i j:Int} (h0:0≤i) (h:CV l o i j) (hx:j≤0∨∃x a,o[j.toNat]?=some x∧o[(j - 1).toNat]?=some a∧¬x<a∧0<j):xz l o (i+1):=by
 obtain⟨A,x',B,C,rfl,h1,h2,h3,h4,h5⟩:=h
 refine⟨A++x'::B,C,by simp,by simp;omega,?_,h5⟩
 obtain⟨p1,p2,p3⟩:=List.pairwise_append.1 h3
 have key:∀a∈A,a≤x':=by
  rcases hx with hx|⟨x,a,q1,q2,q3,q4⟩
  ·have:A=[]:=akG (by omega)
   subst this;intro a ha;cases ha
  ·have e1:x'=x:=by
    rw[List.getElem?_append_right (by omega),h1,Nat.sub_self]at q1
    simpa using q1
   subst e1
   rcases List.eq_nil_or_concat A with rfl|⟨A',a',rfl⟩
   ·intro a ha;cases ha
   ·simp only[List.concat_eq_append,akk,List.length_singleton]at h1
    have hj1:(j - 1).toNat=A'.length:=by omega
    have e2:a'=a:=by
     rw[hj1,List.concat_eq_append,akt,List.getElem?_append_right (akB _),Nat.sub_self]at q2
     simpa using q2
    subst e2
    intro y hy
    simp only[List.concat_eq_append,akz,List.mem_singleton]at hy
    rcases hy with hy|rfl
    ·rw[List.concat_eq_append]at p1
     have:=(List.pairwise_append.1 p1).2.2 y hy a' (by simp)
     omega
    ·omega
 refine List.pairwise_append.2 ⟨p1,List.pairwise_cons.2 ⟨fun y hy=>h4 y hy,p2⟩,fun a ha b hb=> ?_⟩
 rcases List.mem_cons.1 hb with rfl|hb
 ·exact key a ha
 ·exact p3 a ha b hb
theorem Xv {l o:List Int} {i:Int} (h:xz l o i) (hi:(o.length:Int)≤i):o.Perm l∧o.Pairwise (· ≤ ·):=by
 obtain⟨A,C,rfl,h1,h2,h3⟩:=h
 have:C=[]:=akG (by simp at hi;omega)
 subst this
 rw[List.append_nil]at h3 ⊢
 exact⟨h3,h2⟩
noncomputable def ft_bitsG':NV (aA [] [] [] 0x422cd9d15c886be72390b0688bdaf5c7a782da1939650b):=⟨_,by conv=>rhs;reduce⟩
noncomputable abbrev PR:XF:=ft_bitsG'.1
theorem DS:aK Tryz.prog 121 PR=true:=by kernel_rfl
structure aaF where
 x:Int
structure ZQ where
 z:Int
theorem Oi:aB Tryz.prog 121 0 (aO (fun p:aaF=>([.sy (.int 4 p.x)],.leaf,0)) (fun p=>0≤p.x∧p.x<9) (fun p K=>aj fun r:ZQ=>K (.sy (.int 0 r.z)) .leaf 0)):=nE (nat:=Av) DS fun p K hpre hK=>by
 dsimp only at hpre hK ⊢
 obtain⟨h1,h2⟩:=hpre
 exact wz
noncomputable def ya:NN:=bW Av Oi [(0,20)]
noncomputable def ft_less':NV (aA [] [] [] 0x73c57ba0183400827b534b7733782532080f54484e2d290c):=⟨_,by conv=>rhs;reduce⟩
noncomputable abbrev XM:XF:=ft_less'.1
theorem HX:aK Tryz.prog 151 XM=true:=by kernel_rfl
structure ahi where
 x:Int
 y:Int
theorem VV:aB Tryz.prog 151 0 (aO (fun p:ahi=>([.sy (.int 0 p.x),.sy (.int 0 p.y)],.leaf,0)) (fun _=>True) (fun p K=>K (.sy (.bool (p.x<p.y))) .leaf 0)):=nE (nat:=ya) HX fun p K hpre hK=>by
 dsimp only at hpre hK ⊢
 have yd {g:Prop} (h:g:=by first|(exfalso;omega)|fail):g:=h
 exact wz
noncomputable def oy:NN:=bW ya VV [(0,20),(1,20)]
noncomputable def bd_l_insI':NV (cS [] [] [] 0x139e3540a14aa8301535a81e5207c7652cfc820caab43f4e2db5f0f18552bf1a4463061784ac917649111c8aed8cac47589374885701b54fe41ad96d4fa3bd8a3400a7e5f202578608c):=⟨_,by conv=>rhs;reduce⟩
noncomputable abbrev yK:XC:=bd_l_insI'.1
noncomputable def bd_l_insO':NV (fun b0=>cS [] [] [b0] 0x11e6645ec55cf8282326209c14b1b466e3f79dc88b2dacb92e108bbc2a86bdf):=⟨_,by conv=>rhs;reduce⟩
noncomputable abbrev yJ:XC:=bd_l_insO'.1 yK
noncomputable def ft_insG':NV (fun b0=>aA [] [] [b0] 0x3036ac62c6209bb5251e44cf6665):=⟨_,by conv=>rhs;reduce⟩
noncomputable abbrev XN:XF:=ft_insG'.1 yJ
theorem HY:aK Tryz.prog 145 XN=true:=by kernel_rfl
structure Dc where
 l:List Int
 o:List Int
 i:Int
structure QM where
 o:List Int
structure Dd where
 l:List Int
 o:List Int
 i:Int
 j:Int
structure QN where
 o:List Int
noncomputable def EU:bM:=ce (ce bQ 0 (fun p:Dc=>((.cons 6 (.sy (.int 0 p.i)) (.cons 2 (.sy (.int 0 (p.l.length:Int))) (.cons 1 (.int 0 (.ofNat 0)) (.cons 0 (.sy (.prow 0 p.l.length)) .nil)))),(.node .leaf (some (pq p.o)) .leaf),1)) (fun p=>p.o.length=p.l.length∧p.l.length≤1000∧1≤p.i∧xz p.l p.o p.i) (fun p K=>aj fun r:QM=>iP (r.o.Perm p.l∧r.o.Pairwise (· ≤ ·)) (K 2 .nil (.node .leaf (some (pq r.o)) .leaf) 1) true)) 1 (fun p:Dd=>((.cons 7 (.sy (.int 0 p.j)) (.cons 6 (.sy (.int 0 p.i)) (.cons 2 (.sy (.int 0 (p.l.length:Int))) (.cons 1 (.int 0 (.ofNat 0)) (.cons 0 (.sy (.prow 0 p.l.length)) .nil))))),(.node .leaf (some (pq p.o)) .leaf),1)) (fun p=>p.o.length=p.l.length∧p.l.length≤1000∧0≤p.j∧p.j≤p.i∧p.i<(p.l.length:Int)∧CV p.l p.o p.i p.j) (fun p K=>aj fun r:QN=>iP (r.o.length=p.l.length∧xz p.l r.o (p.i+1)) (K 4 (.cons 6 (.sy (.int 0 p.i)) (.cons 2 (.sy (.int 0 (p.l.length:Int))) (.cons 1 (.int 0 (.ofNat 0)) (.cons 0 (.sy (.prow 0 p.l.length)) .nil)))) (.node .leaf (some (pq r.o)) .leaf) 1) true)
theorem Kr:bg Tryz.prog 49 1 EU true 1 yK:=lL (nat:=oy) (fun p:Dd=>p.j.toNat) cq (fun _ _ _ _=>rfl) fun p K hpre hK=>by
 dsimp only at hpre hK ⊢
 obtain⟨g0,g00,g1,g2,g3,g5⟩:=hpre
 have nnx:=trivial
 have nnh:=trivial
 have ys {g:Prop} (h:g:=by first|(first|omega|(simp only[List.length_set];omega);done)|fail):g:=h
 have yp {g:Prop} (h:g:=by first|(refine⟨g0,Fa (by omega) g5 ?_⟩;first|exact .inl (by omega)|exact .inr ⟨_,_,hi1,hi,by assumption,by omega⟩)|(refine⟨g0,Fa (by omega) g5 ?_⟩;first|exact .inl (by omega)|exact .inr ⟨_,_,hi2,hi3,by assumption,by omega⟩)|fail):g:=h
 have yb {g:Prop} (h:g:=by first|(have hs:=OZ (by omega) g5 hi4 hi3 (by have e1:=akH (hi4.symm.trans hi1);have e2:=akH (hi3.symm.trans hi2);omega);refine⟨by rw[List.length_set,List.length_set,g0],g00,by omega,by omega,by omega,?_⟩;exact hs)|fail):g:=h
 have yq {g:Prop} (h:g:=by first|(refine wX x3 (by first|exact sd|exact ys) ?_;exact wz)|(refine wX x4 (by first|exact sd|exact ys) ?_;exact wz)|(exact jS (.mk p.l ..))|fail):g:=h
 exact wz
theorem Kq:bg Tryz.prog 49 1 EU true 0 yJ:=lL (nat:=oy) (fun p:Dc=>((p.l.length:Int) - p.i).toNat) (dC Kr) (fun _ _ _ _=>rfl) fun p K hpre hK=>by
 dsimp only at hpre hK ⊢
 obtain⟨G1,G2,G3,G4⟩:=hpre
 have yg {g:Prop} (h:g:=by first|(exact⟨by omega,by omega,by omega,by omega,by omega,aeZ (by omega) G4 (by omega)⟩)|fail):g:=h
 have yp {g:Prop} (h:g:=by first|(exact Xv G4 (by omega))|fail):g:=h
 have yb {g:Prop} (h:g:=by first|(exact⟨hi.1,G2,by omega,hi.2⟩)|fail):g:=h
 have yq {g:Prop} (h:g:=by first|(refine cn (.mk p.l ..) (h:= ?_);exact wo)|(exact jS (.mk p.l ..))|fail):g:=h
 exact wz
structure ahj where
 l:List Int
structure agw where
 o:List Int
theorem VW:aB Tryz.prog 145 1 (aO (fun p:ahj=>([.sy (.prow 0 p.l.length),.int 0 (.ofNat 0),.sy (.int 0 (p.l.length:Int))],(.node .leaf (some (pq p.l)) .leaf),1)) (fun p=>1≤p.l.length∧p.l.length≤1000) (fun p K=>aj fun r:agw=>iP (r.o.Perm p.l∧r.o.Pairwise (· ≤ ·)) (K (.tup []) (.node .leaf (some (pq r.o)) .leaf) 1) true)):=nF (nat:=oy) HY (dC Kq) fun p K hpre hK=>by
 dsimp only at hpre hK ⊢
 obtain⟨h1,h2⟩:=hpre
 have yg {g:Prop} (h:g:=by first|(exact⟨rfl,by omega,by omega,KI (by omega)⟩)|fail):g:=h
 have yq {g:Prop} (h:g:=by first|(refine cn (.mk p.l ..) (h:= ?_);exact wo)|fail):g:=h
 exact wz
noncomputable def AB:NN:=bW oy VW [(0,25),(1,1),(2,20)]
theorem ou:∀(n:Nat) {l:List Nat},l.Nodup→(∀x∈l,x<n)→l.length≤n
 |0,l,_,h=>by
  cases l with
  |nil=>exact akB _
  |cons x l=>have:=h x (by simp);omega
 |n+1,l,hd,h=>by
  by_cases hm:n∈l
  ·have h1:=ou n (l:=l.erase n) (hd.erase _) fun x hx=>by
    have h2:=(hd.mem_erase_iff).1 hx
    have h3:=h x h2.2
    have h4:=h2.1
    omega
   rw[List.length_erase_of_mem hm]at h1
   omega
  ·have h1:=ou n hd fun x hx=>by
    have h3:=h x hx
    have h4:x≠n:=fun e=>hm (e▸hx)
    omega
   omega
def qb (x:Int):List Int→List Int
 |[]=>[x]
 |y::l=>if x≤y then x::y::l else y::qb x l
def kT (l:List Int):List Int:=l.foldr qb []
theorem qa (x:Int):∀l,(qb x l).Perm (x::l)
 |[]=>.refl _
 |y::l=>by
  unfold qb
  split
  ·exact .refl _
  ·exact((qa x l).cons y).trans (.swap _ _ _)
theorem Pa {x y:Int} {l:List Int} (h:y∈qb x l):y=x∨y∈l:=List.mem_cons.1 ((qa x l).mem_iff.1 h)
theorem rZ (x:Int):∀{l:List Int},l.Pairwise (· ≤ ·)→(qb x l).Pairwise (· ≤ ·)
 |[],_=>by simp[qb]
 |y::l,h=>by
  obtain⟨h1,h2⟩:=List.pairwise_cons.1 h
  unfold qb
  split
  ·rename_i hxy
   refine List.pairwise_cons.2 ⟨fun z hz=> ?_,h⟩
   rcases List.mem_cons.1 hz with rfl|hz
   ·exact hxy
   ·exact Int.le_trans hxy (h1 z hz)
  ·refine List.pairwise_cons.2 ⟨fun z hz=> ?_,rZ x h2⟩
   rcases Pa hz with rfl|hz
   ·omega
   ·exact h1 z hz
theorem lX:∀l,(kT l).Perm l
 |[]=>.refl _
 |x::l=>(qa x (kT l)).trans ((lX l).cons x)
theorem mW:∀l,(kT l).Pairwise (· ≤ ·)
 |[]=>.nil
 |x::l=>rZ x (mW l)
theorem Je {o l:List Int} (h1:o.Perm l) (h2:o.Pairwise (· ≤ ·)):o=kT l:=
 List.Perm.eq_of_pairwise (le:=(· ≤ ·)) (fun _ _ _ _ a b=>Int.le_antisymm a b) h2 (mW l) (h1.trans (lX l).symm)
theorem Jf {o l:List Int} (h:o.Perm l):kT o=kT l:=Je ((lX o).trans h) (mW o)
def dp:List (Int×Int)→Int→Int→List (Int×Int)
 |[],k,v=>[(k,v)]
 |x::l,k,v=>if x.1=k then (k,v)::l else x::dp l k v
def gS:List (Int×Int)→Int→Int
 |[],_=>0
 |x::l,k=>if x.1=k then x.2 else gS l k
theorem sK {k v:Int}:∀{l:List (Int×Int)} {j:Nat} {x:Int×Int},(l.map (·.1)).Nodup→l[j]?=some x→x.1=k→l.set j (k,v)=dp l k v
 |[],j,x,_,h,_=>by simp at h
 |y::l,0,x,_,h,e=>by
  simp only[List.getElem?_cons_zero,akE]at h
  subst h
  rw[dp,if_pos e];rfl
 |y::l,j+1,x,hn,h,e=>by
  rw[List.getElem?_cons_succ]at h
  rw[akr,List.nodup_cons]at hn
  have hy:¬y.1=k:=fun q=>hn.1 (by rw[q,←e];exact List.mem_map_of_mem (akp h))
  rw[dp,if_neg hy,List.set_cons_succ,sK hn.2 h e]
theorem pG {k v:Int}:∀{l:List (Int×Int)},k∈l.map (·.1)→(dp l k v).map (·.1)=l.map (·.1)
 |[],h=>by simp at h
 |x::l,h=>by
  unfold dp
  split
  ·rename_i e;rw[akr,akr,e]
  ·rename_i e
   rw[akr,akr,pG]
   rw[akr,List.mem_cons]at h
   exact h.resolve_left fun q=>e q.symm
theorem ra {k:Int}:∀{l:List (Int×Int)} {x:Int×Int},(l.map (·.1)).Nodup→x∈l→x.1=k→x.2=gS l k
 |y::l,x,hn,h,e=>by
  rw[akr,List.nodup_cons]at hn
  rcases List.mem_cons.1 h with rfl|h
  ·rw[gS,if_pos e]
  ·have hy:¬y.1=k:=fun q=>hn.1 (by rw[q,←e];exact List.mem_map_of_mem h)
   rw[gS,if_neg hy]
   exact ra hn.2 h e
theorem Fg {k:Int}:∀{l:List (Int×Int)},(∀y∈l,¬y.1=k)→gS l k=0
 |[],_=>rfl
 |x::l,h=>by rw[gS,if_neg (h x (by simp))];exact Fg fun y hy=>h y (by simp[hy])
def lG (com:Int) (m:List Int) (hs:List (Int×Int)):Int:=max com ((kT (hs.map (·.2))).getD (hs.length - (m.length / 2+1)) 0)
def FZ (hs:List (Int×Int)) (bs seen:List Nat) (o:List Int):Prop:=∃js:List Nat,seen=js.map (fun j=>bs.getD j 0)∧o=js.map (fun j=>(hs.getD j (0,0)).2)∧js.Nodup∧∀j∈js,j<hs.length
theorem Nm (hs:List (Int×Int)) (bs:List Nat):FZ hs bs [] []:=⟨[],rfl,rfl,.nil,by simp⟩
theorem Er {hs:List (Int×Int)} {bs seen:List Nat} {o:List Int} {j b:Nat} {x:Int×Int} (h:FZ hs bs seen o) (hx:hs[j]?=some x∧bs[j]?=some b∧¬b∈seen):FZ hs bs (seen++[b]) (o++[x.2]):=by
 obtain⟨js,rfl,rfl,h1,h2⟩:=h
 obtain⟨g1,g2,g3⟩:=hx
 refine⟨js++[j],?_,?_,?_,fun i hi=> ?_⟩
 ·simp[List.getD,g2]
 ·simp[List.getD,g1]
 ·refine List.nodup_append.2 ⟨h1,by simp,fun a ha c hc e=> ?_⟩
  simp only[List.mem_singleton]at hc
  subst hc;subst e
  exact g3 (List.mem_map.2 ⟨a,ha,by simp[List.getD,g2]⟩)
 ·rcases akz.1 hi with hi|hi
  ·exact h2 i hi
  ·simp only[List.mem_singleton]at hi
   subst hi
   exact(List.getElem?_eq_some_iff.1 g1).1
theorem Vs {js:List Nat} {n:Nat} (h1:js.Nodup) (h2:∀j∈js,j<n) (h3:∀j,j<n→j∈js):js.Perm (List.range n):=by
 refine(List.perm_ext_iff_of_nodup h1 List.nodup_range).2 fun j=> ?_
 rw[List.mem_range]
 exact⟨h2 j,h3 j⟩
theorem adb {hs:List (Int×Int)} {bs seen:List Nat} {cl:Nat} {o:List Int} (hb:pm hs.length bs cl) (h:FZ hs bs seen o) (hx:∀b∈bs,b∈seen):o.Perm (hs.map (·.2)):=by
 obtain⟨js,rfl,rfl,h1,h2⟩:=h
 obtain⟨b1,b2,_⟩:=hb
 have hp:=Vs h1 h2 fun j hj=>by
  have hj':j<bs.length:=by omega
  obtain⟨i,hi,e⟩:=List.mem_map.1 (hx bs[j] (List.getElem_mem hj'))
  have hi':i<bs.length:=by have:=h2 i hi;omega
  have e:bs[i]=bs[j]:=by simpa[List.getD,List.getElem?_eq_getElem hi'] using e
  have:=(List.getElem_inj b2).1 e
  subst this;exact hi
 have e:hs.map (·.2)=(List.range hs.length).map (fun j=>(hs.getD j (0,0)).2):=by
  refine List.ext_getElem (by simp) fun i g1 g2=> ?_
  simp only[akm]at g1
  simp[List.getD,List.getElem?_eq_getElem g1]
 rw[e]
 exact hp.map _
theorem Jp {hs:List (Int×Int)} {bs seen:List Nat} {o:List Int} (h:FZ hs bs seen o):o.length≤hs.length∧seen.length=o.length:=by
 obtain⟨js,rfl,rfl,h1,h2⟩:=h
 refine⟨?_,by simp⟩
 rw[akm]
 have:js.Subset (List.range hs.length):=fun j hj=>List.mem_range.2 (h2 j hj)
 simpa using ou hs.length h1 h2
noncomputable def ft_pdqG':NV (aA [] [] [] 0x1a8d0db51c8cb02272bd739e5cd11d7383ca02a9ff8407c9cfeeee01b05d19154f5c679ac6f69ea57b8f12850bff0c407a12fa6b51f07ddd499b7def41b25bacabceb058c683b7981787d0a6eb943c8cd66bc5ad365711032fab8b71b8acb0f0008cad7d8e4b873bb168d78b6219dadb664453eb5eade9a30c0f03eaebd8021cebd20e872d1718ddbe49d4fcfa54671dfdf35f0ef43de67ffa38850b3c632f4da89a178ae3c3942d7fc8e3f2e1c10d9294b1ba7d3176db3ba96e4b14677ed4de5e35d3e1749fe8c49a65fc112e399a800b586af52a862dbcfc4afc9d4afecec99c223a8639bfb32f53fb4c048a142bb1f4f3b1ae6ba9dc79b68e01fa06308f4a41a70a38a5c0a2f335f4d71adf9acd6d):=⟨_,by conv=>rhs;reduce⟩
noncomputable abbrev XJ:XF:=ft_pdqG'.1
theorem HT:aK Tryz.prog 120 XJ=true:=by kernel_rfl
structure ahg where
 l:List Int
 z:Int
structure ago where
 o:List Int
theorem VT:aB Tryz.prog 120 1 (aO (fun p:ahg=>([.sy (.prow 0 p.l.length),.int 0 (.ofNat 0),.sy (.int 0 (p.l.length:Int)),.sy (.int 0 p.z)],(.node .leaf (some (pq p.l)) .leaf),1)) (fun p=>1≤p.l.length∧p.l.length≤8) (fun p K=>aj fun r:ago=>iP (r.o.Perm p.l∧r.o.Pairwise (· ≤ ·)) (K (.tup []) (.node .leaf (some (pq r.o)) .leaf) 1) true)):=nE (nat:=AB) HT fun p K hpre hK=>by
 dsimp only at hpre hK ⊢
 obtain⟨h1,h2⟩:=hpre
 exact wz
noncomputable def AA:NN:=bW AB VT [(0,25),(1,1),(2,20),(3,20)]
noncomputable def ft_sortG':NV (aA [] [] [] 0x1f229c76d86543041b8de3dca328caca842):=⟨_,by conv=>rhs;reduce⟩
noncomputable abbrev Pp:XF:=ft_sortG'.1
theorem Du:aK Tryz.prog 89 Pp=true:=by kernel_rfl
structure aah where
 l:List Int
structure Zk where
 o:List Int
theorem NK:aB Tryz.prog 89 1 (aO (fun p:aah=>([.sy (.prow 0 p.l.length)],(.node .leaf (some (pq p.l)) .leaf),1)) (fun p=>1≤p.l.length∧p.l.length≤8) (fun p K=>aj fun r:Zk=>iP (r.o=kT p.l∧r.o.length=p.l.length) (K (.tup []) (.node .leaf (some (pq r.o)) .leaf) 1) true)):=nE (nat:=AA) Du fun p K hpre hK=>by
 dsimp only at hpre hK ⊢
 obtain⟨h1,h2⟩:=hpre
 have yp {g:Prop} (h:g:=by first|(exact⟨Je (hi).1 (hi).2,(hi).1.length_eq⟩)|fail):g:=h
 exact wz
noncomputable def mq:NN:=bW AA NK [(0,25)]
structure Ke where
 v:Int
 w:Int
def aF (x:Ke):List PL:=[.int 1 (.ofNat 2),.int 1 (.ofNat 0),.int 2 (.ofNat 0),.int 3 (.ofNat 0),.int 1 (.ofNat 0),.int 1 (.ofNat 0),.int 1 (.ofNat 0),.int 1 (.ofNat 0),.int 1 (.ofNat 0),.int 1 (.ofNat 0),.int 1 (.ofNat 0),.int 3 (.ofNat 0),.nilS,.int 1 (.ofNat 0),.str [],.nilS,.sint 1 x.v,.sint 2 x.w]
noncomputable abbrev jU (x0:Int) (x1:Int) (x2:Int) (x3:Int) (x4:Int) (x5:Int) (x6:List Nat) (x7:Int) (x8:Value) (x9:List Int) (x10:Int) (x11:Int) (x12:Prop) (x13:Value) (x14:List Int) (x15:Value) (x16:List Ke) (x17:Value) (x18:List Ke):AV:=.agg [.sy (.int 1 x0),.int 1 (.ofNat 0),.int 1 (.ofNat 0),.sy (.int 3 x1),.sy (.int 3 x2),.sy (.int 3 x3),.int 3 (.ofNat 0),.sy (.int 4 x4),.sy (.int 4 x5),.int 1 (.ofNat 0),.int 2 (.ofNat 0),.int 3 (.ofNat 0),.int 1 (.ofNat 0),.int 1 (.ofNat 0),.int 1 (.ofNat 0),.int 1 (.ofNat 0),.int 1 (.ofNat 0),.int 1 (.ofNat 0),.int 1 (.ofNat 0),.nilS,.int 1 (.ofNat 0),.str x6,.int 1 (.ofNat 0),.sy (.int 3 x7),.sy (.imm x8 2 Int x9 am),.sy (.int 1 x10),.sy (.int 2 x11),.sy (.bool x12),.sy (.imm x13 2 Int x14 am),.sy (.imm x15 18 Ke x16 aF),.sy (.imm x17 18 Ke x18 aF)]
noncomputable abbrev pM (x0:Int) (x1:Value) (x2:List Int) (x3:Nat) (x4:Nat) (x5:Nat) (x6:Int) (x7:Int) (x8:Value) (x9:List Int) (x10:Nat) (x11:Nat) (x12:Nat) (x13:Nat) (x14:Nat) (x15:Nat) (x16:Prop) (x17:Int) (x18:Int) (x19:Int) (x20:Value) (x21:List Ke) (x22:Nat) (x23:Nat) (x24:Int):AObj:=.blk false 86 21 [[.int 1 (.ofNat 0),.sy (.int 3 x0),.sy (.imm x1 2 Int x2 am),.ptr x3 0,.ptr x4 0,.ptr x5 0,.sy (.int 0 x6),.int 1 (.ofNat 0),.sy (.int 1 x7),.int 2 (.ofNat 1),.sy (.imm x8 2 Int x9 am),.sy (.prow x10 x11),.sy (.prow x12 x13),.sy (.prow x14 x15),.sy (.bool x16),.sy (.int 3 x17),.sy (.int 3 x18),.sy (.int 0 x19),.sy (.imm x20 18 Ke x21 aF),.sy (.prow x22 x23),.sy (.int 0 x24)]]
noncomputable abbrev eL (x0:Int) (x1:Int) (x2:Value) (x3:List Int) (x4:Value) (x5:List Ke):AObj:=.blk false 132 5 [[.sy (.int 4 x0),.sy (.int 4 x1),.sy (.imm x2 2 Int x3 am),.sy (.imm x4 18 Ke x5 aF),.bool true]]
noncomputable abbrev EB (x0:Int) (x1:Int) (x2:Int) (x3:Int) (x4:Int) (x5:Int) (x6:List Nat) (x7:Int) (x8:Value) (x9:List Int) (x10:Int) (x11:Int) (x12:Prop) (x13:Value) (x14:List Int) (x15:Value) (x16:List Ke) (x17:Value) (x18:List Ke):AObj:=.blk false 74 31 [[.sy (.int 1 x0),.int 1 (.ofNat 0),.int 1 (.ofNat 0),.sy (.int 3 x1),.sy (.int 3 x2),.sy (.int 3 x3),.int 3 (.ofNat 0),.sy (.int 4 x4),.sy (.int 4 x5),.int 1 (.ofNat 0),.int 2 (.ofNat 0),.int 3 (.ofNat 0),.int 1 (.ofNat 0),.int 1 (.ofNat 0),.int 1 (.ofNat 0),.int 1 (.ofNat 0),.int 1 (.ofNat 0),.int 1 (.ofNat 0),.int 1 (.ofNat 0),.nilS,.int 1 (.ofNat 0),.str x6,.int 1 (.ofNat 0),.sy (.int 3 x7),.sy (.imm x8 2 Int x9 am),.sy (.int 1 x10),.sy (.int 2 x11),.sy (.bool x12),.sy (.imm x13 2 Int x14 am),.sy (.imm x15 18 Ke x16 aF),.sy (.imm x17 18 Ke x18 aF)]]
noncomputable abbrev EA (x0:Int) (x1:Value) (x2:List Int) (x3:Nat) (x4:Nat) (x5:Int) (x6:Int) (x7:Value) (x8:List Int) (x9:Nat) (x10:Nat) (x11:Nat) (x12:Nat) (x13:Nat) (x14:Nat) (x15:Prop) (x16:Int) (x17:Int) (x18:Int) (x19:Value) (x20:List Ke) (x21:Nat) (x22:Nat) (x23:Int):AObj:=.blk false 86 21 [[.int 1 (.ofNat 0),.sy (.int 3 x0),.sy (.imm x1 2 Int x2 am),.ptr x3 0,.ptr x4 0,.nilP,.sy (.int 0 x5),.int 1 (.ofNat 0),.sy (.int 1 x6),.int 2 (.ofNat 1),.sy (.imm x7 2 Int x8 am),.sy (.prow x9 x10),.sy (.prow x11 x12),.sy (.prow x13 x14),.sy (.bool x15),.sy (.int 3 x16),.sy (.int 3 x17),.sy (.int 0 x18),.sy (.imm x19 18 Ke x20 aF),.sy (.prow x21 x22),.sy (.int 0 x23)]]
noncomputable abbrev bu (x0:List Ke):AObj:=.prow 68 18 Ke x0 aF
noncomputable abbrev ED (x0:Value) (x1:List Int) (x2:Value) (x3:List Ke):AV:=.agg [.sy (.imm x0 2 Int x1 am),.sy (.imm x2 18 Ke x3 aF)]
theorem acV {hs:List (Int×Int)} {m:List Int} {me n:Int} (g1:NL m) (g2:me∈m) (g3:hs.map (·.1)=m) (h:∀y∈hs,¬y.1=me):hs++[(me,n)]=dp hs me n∧(hs++[(me,n)]).map (·.1)=m∧(hs++[(me,n)]).length=m.length:=by
 rw[←g3]at g2
 obtain⟨y,hy,e⟩:=List.mem_map.1 g2
 exact absurd e (h y hy)
theorem acU {hs:List (Int×Int)} {m:List Int} {me n:Int} {j:Nat} {x:Int×Int} (g1:NL m) (g2:me∈m) (g3:hs.map (·.1)=m) (h:hs[j]?=some x∧x.1=me):hs.set j (me,n)=dp hs me n∧(hs.set j (me,n)).map (·.1)=m∧(hs.set j (me,n)).length=m.length:=by
 have e:=sK (v:=n) (by rw[g3];exact g1.1) h.1 h.2
 exact⟨e,by rw[e,pG (by rw[g3];exact g2),g3],by rw[List.length_set,←g3,akm]⟩
theorem acW {hs hs':List (Int×Int)} {m:List Int} {me n com:Int} {a b:List Int} {z:Int} (h1:hs'=dp hs me n∧hs'.map (·.1)=m∧hs'.length=m.length) (h2:a.Perm (hs'.map (·.2))∧a.length=hs'.length) (h3:b=kT a∧b.length=a.length) (hz:b[((a.length:Int) - (Int.tdiv (m.length:Int) 2+1)).toNat]?=some z):hs'=dp hs me n∧max com z=lG com m hs':=by
 refine⟨h1.1,?_⟩
 unfold lG
 rw[Jf h2.1]at h3
 rw[Int.tdiv_eq_ediv_of_nonneg (by omega),h2.2,h3.1]at hz
 rw[show hs'.length - (m.length / 2+1)=((hs'.length:Int) - ((m.length:Int) / 2+1)).toNat by omega,List.getD,hz]
 rfl
noncomputable def bd_rgG':NV (cS [] [] [] 0xd0e38755dd7ac4a9a0b44cceb76cc0ace6c0c818d):=⟨_,by conv=>rhs;reduce⟩
noncomputable abbrev LN:XC:=bd_rgG'.1
noncomputable def bd_l_stG':NV (fun a0 a1=>cS [] [a0,a1] [] 0x91f17b422dc2c1414fd641143120fd64eedab6869f22d3668fcd643632f63b7):=⟨_,by conv=>rhs;reduce⟩
noncomputable abbrev Cw:XC:=bd_l_stG'.1 (.cam 3 [0,2,28] 2 true false (Int×Int) aY aX) (.kb 2 true false (Int×Int) aY aX)
noncomputable def ft_settleG':NV (fun e0 a0 b0 b1=>aA [e0] [a0] [b0,b1] 0x89c5ec8251596e750fec9b8845b5e77c6a2a9e40fd815c131db9f65e358a7be75eba351d2b277d56aae3354fdc3ed1d630e397dc6b7b918f5d343d6b2a12064e9f88445b):=⟨_,by conv=>rhs;reduce⟩
noncomputable abbrev HP:XF:=ft_settleG'.1 (eN 3 1 afC) (.cam 3 [0,2,28] 2 true false (Int×Int) aY aX) LN Cw
theorem za:aK Tryz.prog 68 HP=true:=by kernel_rfl
structure ajc where
 N:Int
 rh:Value
 m:List Int
 me:Int
 log:List Ke
 ba:Int
 com:Int
 sh:Bool
 hs:List (Int×Int)
structure aiQ where
 hs:List (Int×Int)
structure Gj where
 N:Int
 rh:Value
 m:List Int
 me:Int
 log:List Ke
 ba:Int
 com:Int
 sh:Bool
 hs:List (Int×Int)
 bs:List Nat
 cl:Nat
 sn:List Nat
 o:List Int
structure Zy where
 o:List Int
noncomputable def uM:bM:=ce (ce bQ 1 (fun p:ajc=>((.cons 0 (.ptr 0 0) .nil),(.node (.node .leaf (some (bu p.log)) .leaf) (some (bZ p.N p.rh p.m p.me 1 p.log.length p.ba p.com (p.sh=true) 2)) (.node .leaf (some (.kmap true true false (Int×Int) p.hs aY aX)) .leaf)),3)) (fun p=>NL p.m∧p.me∈p.m∧p.hs.map (·.1)=p.m∧p.log.length≤400) (fun p K=>aj fun r:aiQ=>iP (r.hs=dp p.hs p.me (p.log.length:Int)∧r.hs.map (·.1)=p.m∧r.hs.length=p.m.length) (K 0 (.cons 0 (.ptr 0 0) .nil) (.node (.node .leaf (some (bu p.log)) .leaf) (some (bZ p.N p.rh p.m p.me 1 p.log.length p.ba p.com (p.sh=true) 2)) (.node .leaf (some (.kmap true true false (Int×Int) r.hs aY aX)) .leaf)) 3) true)) 0 (fun p:Gj=>((.cons 28 (.ptr 4 0) (.cons 2 (.sy (.prow 3 p.o.length)) (.cons 0 (.ptr 0 0) .nil))),(.node (.node (.node .leaf (some (pq p.o)) .leaf) (some (bu p.log)) .leaf) (some (bZ p.N p.rh p.m p.me 1 p.log.length p.ba p.com (p.sh=true) 2)) (.node (.node .leaf (some (.kit 2 true false (Int×Int) p.hs aY aX p.bs p.sn p.cl)) .leaf) (some (.map (ei true false aY aX p.hs p.bs) p.cl)) .leaf)),5)) (fun p=>NL p.m∧p.me∈p.m∧p.hs.map (·.1)=p.m∧p.log.length≤400∧pm p.hs.length p.bs p.cl∧FZ p.hs p.bs p.sn p.o) (fun p K=>aj fun r:Zy=>iP (r.o.Perm (p.hs.map (·.2))∧r.o.length=p.hs.length) (K 2 (.cons 2 (.sy (.prow 3 r.o.length)) (.cons 0 (.ptr 0 0) .nil)) (.node (.node (.node .leaf (some (pq r.o)) .leaf) (some (bu p.log)) .leaf) (some (bZ p.N p.rh p.m p.me 1 p.log.length p.ba p.com (p.sh=true) 2)) (.node .leaf (some (.kmap true true false (Int×Int) p.hs aY aX)) .leaf)) 4) true)
theorem aev:bg Tryz.prog 58 3 uM false 1 LN:=lP (nat:=mq) cq (fun _ _ _ _=>rfl) fun p K hpre hK=>by
 dsimp only at hpre hK ⊢
 obtain⟨g1,g2,g3,g4⟩:=hpre
 have ys {g:Prop} (h:g:=by first|(refine⟨?_,rfl⟩;have e:=(by assumption:_∧_).2;(try dsimp only at e);rw[←e];rfl;done)|fail):g:=h
 have yp {g:Prop} (h:g:=by first|(first|exact acV g1 g2 g3 hi|exact acU g1 g2 g3 hi)|fail):g:=h
 have yz {g:Prop} (h:g:=by first|((try dsimp only);omega;done)|fail):g:=h
 have yq {g:Prop} (h:g:=by first|(refine aW (fun y=>y.1=p.me) ?_;exact wz)|(refine wY (p.me,(p.log.length:Int)) (by first|exact sd|exact ys) (by first|exact sd|exact ys) ?_;exact wz)|fail):g:=h
 exact wz
theorem OO:bg Tryz.prog 58 3 uM true 0 Cw:=lL (nat:=mq) (fun p:Gj=>p.hs.length - p.o.length) cq (fun _ _ _ _=>rfl) fun p K hpre hK=>by
 dsimp only at hpre hK ⊢
 obtain⟨g1,g2,g3,g4,g5,g6⟩:=hpre
 have hl:=Jp g6
 have hm:=ah g1
 have hn:=congrArg List.length g3
 simp only[akm]at hn
 have nnx:=trivial
 have ys {g:Prop} (h:g:=by first|(exact⟨rfl,rfl,by assumption⟩)|(exact⟨(gT (by assumption:pm _ _ _).1).1,Cp (by assumption)⟩)|(exact⟨(by assumption:_∧_∧_).1,(by assumption:_∧_∧_).2.1,_,rfl⟩)|(simp[bU];omega;done)|fail):g:=h
 have yp {g:Prop} (h:g:=by first|(have e:=adb g5 g6 hi;exact⟨e,by simpa using e.length_eq⟩)|fail):g:=h
 have yb {g:Prop} (h:g:=by first|(exact⟨g1,g2,g3,g4,g5,Er g6 (by assumption)⟩)|fail):g:=h
 have ym {g:Prop} (h:g:=by first|(have hz:=(Jp (Er g6 (by assumption))).1;simp only[akk,List.length_singleton]at hz ⊢;omega)|fail):g:=h
 have yq {g:Prop} (h:g:=by first|(refine wX p.hs (by first|exact sd|exact ys) ?_;exact wz)|(refine wX _ (by first|exact sd|exact ys) ?_;exact wz)|(refine wX x2 (by first|exact sd|exact ys) ?_;exact wz)|(refine wX [_] (by first|exact sd|exact ys) ?_;exact wz)|(refine aW x1 ?_;exact wz)|(refine aW x2 ?_;exact wz)|(refine aW x3 ?_;exact wz)|(exact jS (.mk _ _ _ _ _ _ _ _ _ p.bs p.cl ..))|fail):g:=h
 exact wz
structure MB where
 N:Int
 rh:Value
 m:List Int
 me:Int
 log:List Ke
 ba:Int
 com:Int
 sh:Bool
 hs:List (Int×Int)
structure Md where
 com:Int
 hs:List (Int×Int)
theorem He:aB Tryz.prog 68 3 (aO (fun p:MB=>([.ptr 0 0],(.node (.node .leaf (some (bu p.log)) .leaf) (some (bZ p.N p.rh p.m p.me 1 p.log.length p.ba p.com (p.sh=true) 2)) (.node .leaf (some (.kmap true true false (Int×Int) p.hs aY aX)) .leaf)),3)) (fun p=>NL p.m∧p.me∈p.m∧p.hs.map (·.1)=p.m∧p.log.length≤400) (fun p K=>aj fun r:Md=>iP (r.hs=dp p.hs p.me (p.log.length:Int)∧r.com=lG p.com p.m r.hs) (K (.tup []) (.node (.node .leaf (some (bu p.log)) .leaf) (some (bZ p.N p.rh p.m p.me 1 p.log.length p.ba r.com (p.sh=true) 2)) (.node .leaf (some (.kmap true true false (Int×Int) r.hs aY aX)) .leaf)) 3) true)):=nF (nat:=mq) za (fun b j x h=>(cu aev (fun h=>(cu OO (fun h=>(by cases h)) h)) h)) fun p K hpre hK=>by
 dsimp only at hpre hK ⊢
 obtain⟨G1,G2,G3,G4⟩:=hpre
 have hm:=ah G1
 have hm2:=List.length_pos_iff.2 (List.ne_nil_of_mem G2)
 have ht:Int.tdiv (p.m.length:Int) 2=(p.m.length:Int) / 2:=Int.tdiv_eq_ediv_of_nonneg (by omega)
 have nnx:=trivial
 have nnh:=trivial
 have ys {g:Prop} (h:g:=by first|(exact⟨rfl,by omega,by omega,by omega⟩)|(exact⟨(gT (by assumption:pm _ _ _).1).1,Cp (by assumption)⟩)|(decide)|(simp only[mP,ht];omega;done)|(simp only[ht];first|omega|(constructor<;>omega);done)|fail):g:=h
 have yg {g:Prop} (h:g:=by first|(exact⟨G1,G2,G3,G4⟩)|(exact⟨G1,G2,hi1.2.1,G4,hi,Nm _ _⟩)|fail):g:=h
 have yp {g:Prop} (h:g:=by first|(exact acW hi1 hi3 hi4 hi)|fail):g:=h
 have yq {g:Prop} (h:g:=by first|(refine cn (.mk _ _ _ _ _ _ _ _ _ x1 x2 [] [] ..) (h:= ?_);exact wo)|(refine wX _ (by first|exact sd|exact ys) ?_;exact wz)|fail):g:=h
 exact wz
noncomputable def rU:NN:=bW mq He [(0,4)]
structure ROk (m:List Int) (me:Int) (log:List Ke) (ba com:Int) (hs:List (Int×Int)):Prop where
 nl:NL m
 me:me∈m
 keys:hs.map (·.1)=m
 len:log.length≤400
 ba0:0≤ba
 ba1:ba≤(log.length:Int)
 com0:0≤com
 com1:com≤(log.length:Int)
 has:∀x∈hs,0≤x.2∧x.2≤(log.length:Int)
structure vF (x:Ke):Prop where
 v0:0≤x.v
 v1:x.v≤15
 w0:1≤x.w
theorem afI {com n:Int} {m:List Int} {hs:List (Int×Int)} (h0:0≤com) (h1:com≤n) (h:∀x∈hs,0≤x.2∧x.2≤n):0≤lG com m hs∧lG com m hs≤n:=by
 have key:∀z∈kT (hs.map (·.2)),0≤z∧z≤n:=fun z hz=>by
  obtain⟨x,hx,rfl⟩:=List.mem_map.1 ((lX _).mem_iff.1 hz)
  exact h x hx
 unfold lG
 rw[List.getD]
 cases e:(kT (hs.map (·.2)))[hs.length - (m.length / 2+1)]? with
 |none=>simp only[Option.getD_none];omega
 |some z=>have:=key z (akp e);simp only[Option.getD_some];omega
theorem Ae {k v:Int}:∀{l:List (Int×Int)} {x:Int×Int},x∈dp l k v→x∈l∨x=(k,v)
 |[],x,h=>.inr (by simpa[dp] using h)
 |y::l,x,h=>by
  unfold dp at h
  split at h
  ·rcases List.mem_cons.1 h with rfl|h
   ·exact .inr rfl
   ·exact .inl (by simp[h])
  ·rcases List.mem_cons.1 h with rfl|h
   ·exact .inl (by simp)
   ·exact(Ae h).imp (fun h=>by simp[h]) id
theorem ROk.put {m:List Int} {me:Int} {log:List Ke} {ba com:Int} {hs:List (Int×Int)} (h:ROk m me log ba com hs) {k v:Int} (hk:k∈m) (h0:0≤v) (h1:v≤(log.length:Int)):ROk m me log ba com (dp hs k v):=
 ⟨h.nl,h.me,by rw[pG (by rw[h.keys];exact hk),h.keys],h.len,h.ba0,h.ba1,h.com0,h.com1,fun x hx=>(Ae hx).elim (h.has x) fun e=>by subst e;exact⟨h0,h1⟩⟩
theorem ROk.settle {m:List Int} {me:Int} {log:List Ke} {ba com:Int} {hs:List (Int×Int)} (h:ROk m me log ba com hs):ROk m me log ba (lG com m (dp hs me (log.length:Int))) (dp hs me (log.length:Int)):=by
 have h2:=h.put h.me (by omega) (Int.le_refl _)
 have h3:=afI (m:=m) h2.com0 h2.com1 h2.has
 exact⟨h2.nl,h2.me,h2.keys,h2.len,h2.ba0,h2.ba1,h3.1,h3.2,h2.has⟩
theorem ROk.more {m:List Int} {me:Int} {log l:List Ke} {ba com:Int} {hs:List (Int×Int)} (h:ROk m me log ba com hs) (hl:(log++l).length≤400):ROk m me (log++l) ba com hs:=by
 have e:log.length≤(log++l).length:=by simp
 exact⟨h.nl,h.me,h.keys,hl,h.ba0,by have:=h.ba1;omega,h.com0,by have:=h.com1;omega,fun x hx=>by have:=h.has x hx;omega⟩
theorem ROk.pre {m:List Int} {me:Int} {log:List Ke} {ba com:Int} {hs:List (Int×Int)} (h:ROk m me log ba com hs):NL m∧me∈m∧hs.map (·.1)=m∧log.length≤400:=⟨h.nl,h.me,h.keys,h.len⟩
theorem fF {m:List Int} {x me:Int} (h:m[0]?=some x):me=x↔m.head?=some me:=by
 rw[List.head?_eq_getElem?,h,akE]
 exact eq_comm
def gX (m:List Int) (me:Int) (log:List Ke) (com:Int) (sh:Bool) (hs:List (Int×Int)) (x:Ke):List Ke×Int×List (Int×Int):=
 if m.head?=some me∧sh=false∧log.length<400 then (log++[x],lG com m (dp hs me ((log++[x]).length:Int)),dp hs me ((log++[x]).length:Int)) else (log,com,hs)
theorem agd {m:List Int} {me:Int} {log:List Ke} {com:Int} {sh:Bool} {hs:List (Int×Int)} {x:Ke} (h:¬(m.head?=some me∧sh=false∧log.length<400)):(log,com,hs)=gX m me log com sh hs x:=by unfold gX;rw[if_neg h]
theorem YW {m:List Int} {me:Int} {log:List Ke} {com c2:Int} {sh:Bool} {hs h2:List (Int×Int)} {x:Ke} (h:m.head?=some me∧sh=false∧log.length<400) (e:h2=dp hs me ((log++[x]).length:Int)∧c2=lG com m h2):(log++[x],c2,h2)=gX m me log com sh hs x:=by
 unfold gX
 rw[if_pos h,e.2,e.1]
theorem agc {m:List Int} {me:Int} {log:List Ke} {ba com:Int} {sh:Bool} {hs:List (Int×Int)} (x:Ke) (h:ROk m me log ba com hs):ROk m me (gX m me log com sh hs x).1 ba (gX m me log com sh hs x).2.1 (gX m me log com sh hs x).2.2:=by
 unfold gX
 split
 ·rename_i q
  exact(h.more (l:=[x]) (by rw[akk,List.length_singleton];omega)).settle
 ·exact h
def jR (m:List Int) (me:Int) (log:List Ke) (com:Int) (hs:List (Int×Int)) (p up:Int):Int×List (Int×Int):=
 if m.head?=some me∧¬p=me∧p∈m∧up≤(log.length:Int) then (lG com m (dp (dp hs p (max (gS hs p) up)) me (log.length:Int)),dp (dp hs p (max (gS hs p) up)) me (log.length:Int)) else (com,hs)
theorem agf {m:List Int} {me:Int} {log:List Ke} {com:Int} {hs:List (Int×Int)} {p up:Int} (h:¬(m.head?=some me∧¬p=me∧p∈m∧up≤(log.length:Int))):(com,hs)=jR m me log com hs p up:=by unfold jR;rw[if_neg h]
theorem YZ {m:List Int} {me:Int} {log:List Ke} {com c2:Int} {hs h1 h2:List (Int×Int)} {p up:Int} (h:m.head?=some me∧¬p=me∧p∈m∧up≤(log.length:Int)) (e1:h1=dp hs p (max (gS hs p) up)) (e:h2=dp h1 me (log.length:Int)∧c2=lG com m h2):(c2,h2)=jR m me log com hs p up:=by
 unfold jR
 rw[if_pos h,e.2,e.1,e1]
theorem fW {m:List Int} {me:Int} {log:List Ke} {ba com:Int} {hs:List (Int×Int)} (h:ROk m me log ba com hs) (p:Int):0≤gS hs p∧gS hs p≤(log.length:Int):=by
 by_cases q:∃y∈hs,y.1=p
 ·obtain⟨y,hy,e⟩:=q
  rw[←ra (by rw[h.keys];exact h.nl.1) hy e]
  exact h.has y hy
 ·rw[Fg fun y hy e=>q ⟨y,hy,e⟩]
  omega
theorem age {m:List Int} {me:Int} {log:List Ke} {ba com:Int} {hs:List (Int×Int)} {p up:Int} (h:ROk m me log ba com hs):ROk m me log ba (jR m me log com hs p up).1 (jR m me log com hs p up).2:=by
 unfold jR
 split
 ·rename_i q
  have:=fW h p
  exact(h.put q.2.2.1 (by omega) (by omega)).settle
 ·exact h
theorem xw {m:List Int} {me:Int} {log:List Ke} {ba com:Int} {hs:List (Int×Int)} {p:Int} {C:Prop} (h:ROk m me log ba com hs) (hp:p∈m) (hn:∀y∈hs,¬(fun y:Int×Int=>y.1=p) y):C:=by
 rw[←h.keys]at hp
 obtain⟨y,hy,e⟩:=List.mem_map.1 hp
 exact absurd e (hn y hy)
theorem agb {m:List Int} {me:Int} {log:List Ke} {ba com:Int} {hs:List (Int×Int)} {p up:Int} {x y:Int×Int} {j:Nat} (h:ROk m me log ba com hs) (hx:x∈hs∧(fun y:Int×Int=>y.1=p) x) (hy:hs[j]?=some y∧(fun y:Int×Int=>y.1=p) y):hs.set j (p,max x.2 up)=dp hs p (max (gS hs p) up):=by
 have hn:(hs.map (·.1)).Nodup:=by rw[h.keys];exact h.nl.1
 rw[←ra hn hx.1 hx.2]
 exact sK hn hy.1 hy.2
def gE (m:List Int) (me:Int) (log:List Ke) (ba com:Int) (sh:Bool) (fr:Int) (l:List Ke) (c:Int):List Ke×Int:=
 if ¬m.head?=some me∧ba≤fr∧fr≤(log.length:Int)∧(l.length:Int)≤400 - fr then
  if sh=false∧(log.length:Int) - fr<(l.length:Int) then (log++l.drop ((log.length:Int) - fr).toNat,max com (min c ((log++l.drop ((log.length:Int) - fr).toNat).length:Int))) else (log,max com (min c (log.length:Int)))
 else (log,com)
noncomputable def ft_leadsG':NV (aA [] [] [] 0x140d23b0568acc748ca9152517f72ea9193dc35c83342aa48c73e37a9ecbdc417f2):=⟨_,by conv=>rhs;reduce⟩
noncomputable abbrev Lc:XF:=ft_leadsG'.1
theorem BL:aK Tryz.prog 65 Lc=true:=by kernel_rfl
structure Rq where
 N:Int
 rh:Value
 m:List Int
 me:Int
 log:List Ke
 ba:Int
 com:Int
 sh:Bool
 hs:List (Int×Int)
structure QF where
 q:Prop
theorem JM:aB Tryz.prog 65 3 (aO (fun p:Rq=>([.ptr 0 0],(.node (.node .leaf (some (bu p.log)) .leaf) (some (bZ p.N p.rh p.m p.me 1 p.log.length p.ba p.com (p.sh=true) 2)) (.node .leaf (some (.kmap true true false (Int×Int) p.hs aY aX)) .leaf)),3)) (fun p=>¬p.m=[]∧p.m.length≤8) (fun p K=>aj fun r:QF=>iP (r.q↔p.m.head?=some p.me) (K (.sy (.bool r.q)) (.node (.node .leaf (some (bu p.log)) .leaf) (some (bZ p.N p.rh p.m p.me 1 p.log.length p.ba p.com (p.sh=true) 2)) (.node .leaf (some (.kmap true true false (Int×Int) p.hs aY aX)) .leaf)) 3) true)):=nE (nat:=rU) BL fun p K hpre hK=>by
 dsimp only at hpre hK ⊢
 obtain⟨G1,G2⟩:=hpre
 have hne:=List.length_pos_iff.2 G1
 have yp {g:Prop} (h:g:=by first|(first|exact⟨fun _=>(fF (by assumption)).1 (by assumption),fun _=>rfl⟩|exact⟨fun h=>by simp at h,fun h=>absurd ((fF (by assumption)).2 h) (by assumption)⟩|(exfalso;omega))|fail):g:=h
 exact wz
noncomputable def ux:NN:=bW rU JM [(0,4)]
noncomputable def ft_addG':NV (aA [] [] [] 0x363ac6db4dcb8037a052e33b8f805fc14c74aa8eb6d09f6e3a8154299ceddcc511f919b3ba88a01438a69a0d7b246a9645a3bfd2f80d3e113e7c23ddf927d3c9bc9361cb4fed58a9a2d7b3a80d0484801f066e10c4ca35c78b380637542de224b1c8bf95):=⟨_,by conv=>rhs;reduce⟩
noncomputable abbrev Yg:XF:=ft_addG'.1
theorem Ih:aK Tryz.prog 47 Yg=true:=by kernel_rfl
structure ahS where
 N:Int
 rh:Value
 m:List Int
 me:Int
 log:List Ke
 ba:Int
 com:Int
 sh:Bool
 hs:List (Int×Int)
 x:Ke
structure ag3 where
 z:Int
 log:List Ke
 com:Int
 hs:List (Int×Int)
theorem WF:aB Tryz.prog 47 1 (aO (fun p:ahS=>([.ptr 0 0,Aq [] p.x.v p.x.w],(.node (.node .leaf (some (bu p.log)) .leaf) (some (bZ p.N p.rh p.m p.me 1 p.log.length p.ba p.com (p.sh=true) 2)) (.node .leaf (some (.kmap true true false (Int×Int) p.hs aY aX)) .leaf)),3)) (fun p=>ROk p.m p.me p.log p.ba p.com p.hs∧vF p.x) (fun p K=>aj fun r:ag3=>iP ((r.log,r.com,r.hs)=gX p.m p.me p.log p.com p.sh p.hs p.x) (K (.sy (.int 0 r.z)) (.node (.node .leaf (some (bu r.log)) .leaf) (some (bZ p.N p.rh p.m p.me 1 r.log.length p.ba r.com (p.sh=true) 2)) (.node .leaf (some (.kmap true true false (Int×Int) r.hs aY aX)) .leaf)) 3) true)):=nE (nat:=ux) Ih fun p K hpre hK=>by
 dsimp only at hpre hK ⊢
 obtain⟨hpre,hx⟩:=hpre
 obtain⟨g1,g2,g3⟩:=hx
 have g4:=hpre.len
 have hm:=ah hpre.nl
 have hne:=List.length_pos_iff.2 (List.ne_nil_of_mem hpre.me)
 have nnr:=trivial
 have nnq:=trivial
 have ys {g:Prop} (h:g:=by first|(simp[bU];omega;done)|fail):g:=h
 have yg {g:Prop} (h:g:=by first|(exact⟨List.ne_nil_of_mem hpre.me,hm⟩)|(first|exact hpre.pre|exact(hpre.more (by simp only[akk,akl,akn];omega)).pre|exact(hpre.put (Classical.not_not.1 (by assumption)) (by have hb:=fW hpre p.p;omega) (by have hb:=fW hpre p.p;omega)).pre|(rw[hi];exact(hpre.put (Classical.not_not.1 (by assumption)) (by have hb:=fW hpre p.p;omega) (by have hb:=fW hpre p.p;omega)).pre))|fail):g:=h
 have yp {g:Prop} (h:g:=by first|(first|(exfalso;omega)|exact YW ⟨Classical.not_not.1 (by assumption),by(have q:=(by assumption:¬p.sh=true);simpa using q),by omega⟩ hi|exact agd (fun h=>by first|exact absurd h.1 (by assumption)|(have h3:=h.2.2;omega)|exact absurd h.2.1 (by simp_all)))|fail):g:=h
 have yq {g:Prop} (h:g:=by first|(refine wX [(.mk ..)] (by first|exact sd|exact ys) ?_;exact wz)|fail):g:=h
 exact wz
noncomputable def tg:NN:=bW ux WF [(0,4),(1,15)]
noncomputable def bd_rgA':NV (cS [] [] [] 0x36e67be486d51d4195f69bfc2e6bc91c363d59bd9fd7722703e30a):=⟨_,by conv=>rhs;reduce⟩
noncomputable abbrev LO:XC:=bd_rgA'.1
noncomputable def ft_ackG':NV (fun b0=>aA [] [] [b0] 0x3854dfc89c89bd25e4ef34947b88009388dfaed09fb2978248a2542cdfa37f3b3f005509cd80b967c0419c9c5a127d00a920e66588cb7df368e712):=⟨_,by conv=>rhs;reduce⟩
noncomputable abbrev Yh:XF:=ft_ackG'.1 LO
theorem Ii:aK Tryz.prog 115 Yh=true:=by kernel_rfl
structure ajd where
 N:Int
 rh:Value
 m:List Int
 me:Int
 log:List Ke
 ba:Int
 com:Int
 sh:Bool
 hs:List (Int×Int)
 p:Int
 up:Int
structure aiR where
 hs:List (Int×Int)
noncomputable def WW:bM:=ce bQ 1 (fun p:ajd=>((.cons 4 (.ptr 1 0) (.cons 2 (.sy (.int 0 p.up)) (.cons 0 (.ptr 0 0) .nil))),(.node (.node (.node .leaf (some (.kmap true true false (Int×Int) p.hs aY aX)) .leaf) (some (iC p.p)) .leaf) (some (bZ p.N p.rh p.m p.me 2 p.log.length p.ba p.com (p.sh=true) 3)) (.node .leaf (some (bu p.log)) .leaf)),4)) (fun p=>ROk p.m p.me p.log p.ba p.com p.hs∧p.p∈p.m) (fun p K=>aj fun r:aiR=>iP (r.hs=dp p.hs p.p (max (gS p.hs p.p) p.up)) (K 0 (.cons 0 (.ptr 0 0) .nil) (.node (.node .leaf (some (bu p.log)) .leaf) (some (bZ p.N p.rh p.m p.me 1 p.log.length p.ba p.com (p.sh=true) 2)) (.node .leaf (some (.kmap true true false (Int×Int) r.hs aY aX)) .leaf)) 3) true)
theorem aew:bg Tryz.prog 50 1 WW false 1 LO:=lP (nat:=tg) cq (fun _ _ _ _=>rfl) fun p K hpre hK=>by
 dsimp only at hpre hK ⊢
 obtain⟨g1,g2⟩:=hpre
 have nnx:=trivial
 have ys {g:Prop} (h:g:=by first|(refine⟨?_,rfl⟩;have e:=(by assumption:_∧_).2;(try dsimp only at e);rw[←e];rfl;done)|fail):g:=h
 have yp {g:Prop} (h:g:=by first|(first|exact agb g1 (by assumption) hi|exact xw g1 g2 (by assumption)|exact xw g1 g2 hi)|fail):g:=h
 have yz {g:Prop} (h:g:=by first|((try dsimp only);omega;done)|fail):g:=h
 have yq {g:Prop} (h:g:=by first|(refine aW (fun y=>y.1=p.p) ?_;exact wz)|(refine wY (p.p,max (0:Int) p.up) (by first|exact sd|exact ys) (by first|exact sd|exact ys) ?_;exact wz)|(refine wY (p.p,max x1.2 p.up) (by first|exact sd|exact ys) (by first|exact sd|exact ys) ?_;exact wz)|fail):g:=h
 exact wz
structure ahT where
 N:Int
 rh:Value
 m:List Int
 me:Int
 log:List Ke
 ba:Int
 com:Int
 sh:Bool
 hs:List (Int×Int)
 p:Int
 up:Int
structure ag4 where
 com:Int
 hs:List (Int×Int)
theorem WG:aB Tryz.prog 115 1 (aO (fun p:ahT=>([.ptr 0 0,eu p.p,.sy (.int 0 p.up)],(.node (.node .leaf (some (bu p.log)) .leaf) (some (bZ p.N p.rh p.m p.me 1 p.log.length p.ba p.com (p.sh=true) 2)) (.node .leaf (some (.kmap true true false (Int×Int) p.hs aY aX)) .leaf)),3)) (fun p=>ROk p.m p.me p.log p.ba p.com p.hs∧0≤p.up) (fun p K=>aj fun r:ag4=>iP ((r.com,r.hs)=jR p.m p.me p.log p.com p.hs p.p p.up) (K (.tup []) (.node (.node .leaf (some (bu p.log)) .leaf) (some (bZ p.N p.rh p.m p.me 1 p.log.length p.ba r.com (p.sh=true) 2)) (.node .leaf (some (.kmap true true false (Int×Int) r.hs aY aX)) .leaf)) 3) true)):=nF (nat:=tg) Ii (dC aew) fun p K hpre hK=>by
 dsimp only at hpre hK ⊢
 obtain⟨hpre,hup⟩:=hpre
 have g4:=hpre.len
 have hm:=ah hpre.nl
 have hne:=List.length_pos_iff.2 (List.ne_nil_of_mem hpre.me)
 have nnq:=trivial
 have yg {g:Prop} (h:g:=by first|(exact⟨List.ne_nil_of_mem hpre.me,hm⟩)|(exact⟨hpre,Classical.not_not.1 (by assumption)⟩)|(first|exact hpre.pre|exact(hpre.more (by simp only[akk,akl,akn];omega)).pre|exact(hpre.put (Classical.not_not.1 (by assumption)) (by have hb:=fW hpre p.p;omega) (by have hb:=fW hpre p.p;omega)).pre|(rw[hi];exact(hpre.put (Classical.not_not.1 (by assumption)) (by have hb:=fW hpre p.p;omega) (by have hb:=fW hpre p.p;omega)).pre))|fail):g:=h
 have yp {g:Prop} (h:g:=by first|(first|exact agf (fun h=>by first|exact absurd h.1 (by assumption)|exact absurd (by omega) h.2.1|(have h4:=h.2.2.2;omega)|exact absurd h.2.2.1 (by assumption))|exact YZ ⟨Classical.not_not.1 (by assumption),by omega,Classical.not_not.1 (by assumption),by omega⟩ (by assumption) hi)|fail):g:=h
 exact wz
noncomputable def ti:NN:=bW tg WG [(0,4),(1,15),(2,20)]
theorem acQ {m:List Int} {me:Int} {log:List Ke} {ba com:Int} {sh:Bool} {fr:Int} {l:List Ke} {c:Int} (h:¬(¬m.head?=some me∧ba≤fr∧fr≤(log.length:Int)∧(l.length:Int)≤400 - fr)):(log,com)=gE m me log ba com sh fr l c:=by unfold gE;rw[if_neg h]
theorem UL {m:List Int} {me:Int} {log:List Ke} {ba com:Int} {sh:Bool} {fr:Int} {l:List Ke} {c:Int} (h:¬m.head?=some me∧ba≤fr∧fr≤(log.length:Int)∧(l.length:Int)≤400 - fr) (h2:¬(sh=false∧(log.length:Int) - fr<(l.length:Int))):(log,max com (min c (log.length:Int)))=gE m me log ba com sh fr l c:=by unfold gE;rw[if_pos h,if_neg h2]
theorem Eh {m:List Int} {me:Int} {log o:List Ke} {ba com:Int} {sh:Bool} {fr:Int} {l:List Ke} {c:Int} (h:¬m.head?=some me∧ba≤fr∧fr≤(log.length:Int)∧(l.length:Int)≤400 - fr) (h2:sh=false∧(log.length:Int) - fr<(l.length:Int)) (ho:o=l.drop ((log.length:Int) - fr).toNat):(log++o,max com (min c ((log++o).length:Int)))=gE m me log ba com sh fr l c:=by unfold gE;rw[if_pos h,if_pos h2,ho]
theorem ir {m:List Int} {me:Int} {log:List Ke} {ba com:Int} {sh:Bool} {hs:List (Int×Int)} {fr:Int} {l:List Ke} {c:Int} (h:ROk m me log ba com hs):ROk m me (gE m me log ba com sh fr l c).1 ba (gE m me log ba com sh fr l c).2 hs:=by
 unfold gE
 have h1:=h.com0
 have h2:=h.com1
 have h3:=h.ba0
 have h4:=h.len
 split
 ·rename_i q
  have hm:∀{lg:List Ke},ROk m me lg ba com hs→ROk m me lg ba (max com (min c (lg.length:Int))) hs:=fun g=>⟨g.nl,g.me,g.keys,g.len,g.ba0,g.ba1,by have:=g.com0;omega,by have:=g.com1;omega,g.has⟩
  split
  ·rename_i q2
   exact hm (h.more (by rw[akk,akJ];omega))
  ·exact hm h
 ·exact h
noncomputable def bd_l_clones_prow':NV (cS [] [] [] 0xae5d8bef63832d3423b9976c7d1a9d9e308f4199d6cd0a76e10e4524e3e65bbc109cb55e458e8610ef2888f00):=⟨_,by conv=>rhs;reduce⟩
noncomputable abbrev gV:XC:=bd_l_clones_prow'.1
noncomputable def ft_clones_prow':NV (fun e0 b0=>aA [e0] [] [b0] 0x835a9c5ce1da5a114c95bcd6b92636b24abd44c2d62e66d36ee45dd01ea6dd59da22da36869181):=⟨_,by conv=>rhs;reduce⟩
noncomputable abbrev wZ:XF:=ft_clones_prow'.1 (eN 68 18 aF) gV
theorem rF:aK Tryz.prog 54 wZ=true:=by kernel_rfl
structure mS where
 l:List Ke
 o:List Ke
 i:Int
structure vC where
 o:List Ke
noncomputable def wB:bM:=ce bQ 0 (fun p:mS=>((.cons 11 (.sy (.int 0 p.i)) (.cons 10 (.sy (.int 0 (p.l.length:Int))) (.cons 9 (.sy (.prow 0 p.l.length)) (.cons 3 (.sy (.prow 1 p.o.length)) .nil)))),(.node (.node .leaf (some (bu p.o)) .leaf) (some (bu p.l)) .leaf),2)) (fun p=>p.l.length≤1000000∧0≤p.i∧p.i≤(p.l.length:Int)∧p.o=p.l.take p.i.toNat) (fun p K=>aj fun r:vC=>iP (r.o=p.l∧r.o.length=p.l.length) (K 2 (.cons 3 (.sy (.prow 1 r.o.length)) .nil) (.node (.node .leaf (some (bu r.o)) .leaf) (some (bu p.l)) .leaf) 2) true)
theorem tu:bg Tryz.prog 27 1 wB true 0 gV:=lL (nat:=ti) (fun p:mS=>((p.l.length:Int) - p.i).toNat) cq (fun _ _ _ _=>rfl) fun p K hpre hK=>by
 dsimp only at hpre hK ⊢
 obtain⟨g0,g1,g2,g3⟩:=hpre
 have ys {g:Prop} (h:g:=by first|(simp only[bU,akl,akn,g3,akA];omega;done)|fail):g:=h
 have yp {g:Prop} (h:g:=by first|(have e:p.o=p.l:=(by rw[g3];exact List.take_of_length_le (by omega));exact⟨e,by(first|(rw[e];done)|(rw[e];simp;omega))⟩)|fail):g:=h
 have yb {g:Prop} (h:g:=by first|(refine⟨g0,by omega,by omega,?_⟩;rw[show(p.i+1).toNat=p.i.toNat+1 by omega,g3];exact tk (by assumption))|fail):g:=h
 have yq {g:Prop} (h:g:=by first|(refine wX [(.mk ..)] (by first|exact sd|exact ys) ?_;exact wz)|fail):g:=h
 exact wz
structure zi where
 l:List Ke
structure ze where
 o:List Ke
theorem wu:aB Tryz.prog 54 1 (aO (fun p:zi=>([.sy (.prow 0 p.l.length)],(.node .leaf (some (bu p.l)) .leaf),1)) (fun p=>p.l.length≤1000000) (fun p K=>aj fun r:ze=>iP (r.o=p.l∧r.o.length=p.l.length) (K (.sy (.pfix 1 r.o.length r.o.length)) (.node (.node .leaf (some (bu r.o)) .leaf) (some (bu p.l)) .leaf) 2) true)):=nF (nat:=ti) rF (dC tu) fun p K hpre hK=>by
 dsimp only at hpre hK ⊢
 have h1:=hpre
 have ys {g:Prop} (h:g:=by first|(exact⟨rfl,by omega⟩)|(first|omega|(simp;done)|(simp;omega)|(simp only[akA];omega);done)|fail):g:=h
 have yg {g:Prop} (h:g:=by first|(refine⟨h1,by omega,by omega,rfl⟩)|fail):g:=h
 have yq {g:Prop} (h:g:=by first|(refine cn (.mk _ [] ..) (h:= ?_);exact wo)|fail):g:=h
 exact wz
noncomputable def iF:NN:=bW ti wu [(0,25)]
noncomputable def bd_l_clonesE_imm':NV (cS [] [] [] 0xa0df612809b6ca14e6b4cc27da163a1248e1adb81258568ba3d7ab35b5d04399934025bacd88f40d4a2e7a7339):=⟨_,by conv=>rhs;reduce⟩
noncomputable abbrev lM:XC:=bd_l_clonesE_imm'.1
noncomputable def ft_clonesE_imm':NV (fun e0 b0=>aA [e0] [] [b0] 0x3ce3e3e421c585e23d3aa267036e0fd5ffeee1428c17e680a96c58836aed8f75c509b96b009c9fa):=⟨_,by conv=>rhs;reduce⟩
noncomputable abbrev xe:XF:=ft_clonesE_imm'.1 (eN 68 18 aF) lM
theorem rG:aK Tryz.prog 54 xe=true:=by kernel_rfl
structure mT where
 h:Value
 l:List Ke
 o:List Ke
 i:Int
structure vD where
 o:List Ke
noncomputable def wF:bM:=ce bQ 0 (fun p:mT=>((.cons 11 (.sy (.int 0 p.i)) (.cons 10 (.sy (.int 0 (p.l.length:Int))) (.cons 9 (.sy (.imm p.h 18 Ke p.l aF)) (.cons 3 (.sy (.psub 0 18 0 p.o.length 0 (some ((p.l.length:Int).toNat)))) .nil)))),(.node .leaf (some (bu p.o)) .leaf),1)) (fun p=>p.l.length≤1000000∧0≤p.i∧p.i≤(p.l.length:Int)∧p.o=p.l.take p.i.toNat) (fun p K=>aj fun r:vD=>iP (r.o=p.l∧r.o.length=p.l.length) (K 2 (.cons 3 (.sy (.psub 0 18 0 r.o.length 0 (some ((p.l.length:Int).toNat)))) .nil) (.node .leaf (some (bu r.o)) .leaf) 1) true)
theorem tv:bg Tryz.prog 27 0 wF true 0 lM:=lL (nat:=iF) (fun p:mT=>((p.l.length:Int) - p.i).toNat) cq (fun _ _ _ _=>rfl) fun p K hpre hK=>by
 dsimp only at hpre hK ⊢
 obtain⟨g0,g1,g2,g3⟩:=hpre
 have hl0:p.o.length=p.i.toNat:=(by rw[g3,akA];omega)
 have ys {g:Prop} (h:g:=by first|(exact⟨rfl,rfl,by first|rfl|omega,rfl⟩)|(simp only[akl,akn];omega;done)|fail):g:=h
 have yp {g:Prop} (h:g:=by first|(have e:p.o=p.l:=(by rw[g3];exact List.take_of_length_le (by omega));exact⟨e,by rw[e]⟩)|fail):g:=h
 have yb {g:Prop} (h:g:=by first|(refine⟨g0,by omega,by omega,?_⟩;rw[show(p.i+1).toNat=p.i.toNat+1 by omega,g3];exact tk (by assumption))|fail):g:=h
 have yq {g:Prop} (h:g:=by first|(refine wX ((p.l.length:Int).toNat) (by first|exact sd|exact ys) ?_;exact wz)|(refine wX [(.mk ..)] (by first|exact sd|exact ys) ?_;exact wz)|fail):g:=h
 exact wz
structure zj where
 h:Value
 l:List Ke
structure zf where
 o:List Ke
theorem wv:aB Tryz.prog 54 0 (aO (fun p:zj=>([.sy (.imm p.h 18 Ke p.l aF)],.leaf,0)) (fun p=>p.l.length≤1000000) (fun p K=>aj fun r:zf=>iP (r.o=p.l∧r.o.length=p.l.length) (K (.sy (.prow 0 r.o.length)) (.node .leaf (some (bu r.o)) .leaf) 1) true)):=nF (nat:=iF) rG (dC tv) fun p K hpre hK=>by
 dsimp only at hpre hK ⊢
 have h1:=hpre
 have ys {g:Prop} (h:g:=by first|(exact⟨rfl,by omega⟩)|(exact⟨rfl,rfl,rfl,rfl,rfl,congrArg some (by omega)⟩)|fail):g:=h
 have yg {g:Prop} (h:g:=by first|(refine⟨h1,by omega,by omega,rfl⟩)|fail):g:=h
 have yq {g:Prop} (h:g:=by first|(refine cn (.mk _ _ [] ..) (h:= ?_);exact wo)|fail):g:=h
 exact wz
noncomputable def iG:NN:=bW iF wv [(0,23)]
noncomputable def bd_l_clonesE_pfix':NV (cS [] [] [] 0x15cbb17dec7065a6847732ed8f9245e3eb4c61efd15aaf753c0407b9a1a320cc31d0e22afb5bd891bc74eff037):=⟨_,by conv=>rhs;reduce⟩
noncomputable abbrev jX:XC:=bd_l_clonesE_pfix'.1
noncomputable def ft_clonesE_pfix':NV (fun e0 b0=>aA [e0] [] [b0] 0x835a9c5ce1da5a114c95bcd6b92636b24abd44c2d62e66d36ee45dd01ea6dd95cbe418e5299b95):=⟨_,by conv=>rhs;reduce⟩
noncomputable abbrev uV:XF:=ft_clonesE_pfix'.1 (eN 68 18 aF) jX
theorem qf:aK Tryz.prog 54 uV=true:=by kernel_rfl
structure lU where
 l:List Ke
 n:Nat
 c:Nat
 o:List Ke
 i:Int
structure tV where
 o:List Ke
noncomputable def uN:bM:=ce bQ 0 (fun p:lU=>((.cons 11 (.sy (.int 0 p.i)) (.cons 10 (.sy (.int 0 (p.n:Int))) (.cons 9 (.sy (.pfix 0 p.n p.c)) (.cons 3 (.sy (.psub 1 18 0 p.o.length 0 (some ((p.n:Int).toNat)))) .nil)))),(.node (.node .leaf (some (bu p.o)) .leaf) (some (bu p.l)) .leaf),2)) (fun p=>p.n≤p.l.length∧p.n≤1000000∧0≤p.i∧p.i≤(p.n:Int)∧p.o=p.l.take p.i.toNat) (fun p K=>aj fun r:tV=>iP (r.o=p.l.take p.n∧r.o.length=p.n) (K 2 (.cons 3 (.sy (.psub 1 18 0 r.o.length 0 (some ((p.n:Int).toNat)))) .nil) (.node (.node .leaf (some (bu r.o)) .leaf) (some (bu p.l)) .leaf) 2) true)
theorem rC:bg Tryz.prog 27 1 uN true 0 jX:=lL (nat:=iG) (fun p:lU=>((p.n:Int) - p.i).toNat) cq (fun _ _ _ _=>rfl) fun p K hpre hK=>by
 dsimp only at hpre hK ⊢
 obtain⟨g0,g1,g2,g3,g4⟩:=hpre
 have hl0:p.o.length=p.i.toNat:=(by rw[g4,akA];omega)
 have ys {g:Prop} (h:g:=by first|(exact⟨rfl,rfl,by first|rfl|omega,rfl⟩)|(simp only[akl,akn];omega;done)|fail):g:=h
 have yp {g:Prop} (h:g:=by first|(have e:p.o=p.l.take p.n:=(by rw[g4];exact congrArg (fun m=>List.take m _) (by omega));exact⟨e,by rw[e];rw[akA];omega⟩)|fail):g:=h
 have yb {g:Prop} (h:g:=by first|(refine⟨g0,g1,by omega,by omega,?_⟩;rw[show(p.i+1).toNat=p.i.toNat+1 by omega,g4];exact tk (by assumption))|fail):g:=h
 have yq {g:Prop} (h:g:=by first|(refine wX ((p.n:Int).toNat) (by first|exact sd|exact ys) ?_;exact wz)|(refine wX [(.mk ..)] (by first|exact sd|exact ys) ?_;exact wz)|fail):g:=h
 exact wz
structure xA where
 l:List Ke
 n:Nat
 c:Nat
structure xy where
 o:List Ke
theorem uH:aB Tryz.prog 54 1 (aO (fun p:xA=>([.sy (.pfix 0 p.n p.c)],(.node .leaf (some (bu p.l)) .leaf),1)) (fun p=>p.n≤p.l.length∧p.n≤1000000) (fun p K=>aj fun r:xy=>iP (r.o=p.l.take p.n∧r.o.length=p.n) (K (.sy (.prow 1 r.o.length)) (.node (.node .leaf (some (bu r.o)) .leaf) (some (bu p.l)) .leaf) 2) true)):=nF (nat:=iG) qf (dC rC) fun p K hpre hK=>by
 dsimp only at hpre hK ⊢
 obtain⟨h1,h2⟩:=hpre
 have ys {g:Prop} (h:g:=by first|(exact⟨rfl,by omega⟩)|(exact⟨rfl,rfl,rfl,rfl,rfl,congrArg some (by omega)⟩)|fail):g:=h
 have yg {g:Prop} (h:g:=by first|(refine⟨h1,h2,by omega,by omega,rfl⟩)|fail):g:=h
 have yq {g:Prop} (h:g:=by first|(refine cn (.mk _ _ _ [] ..) (h:= ?_);exact wo)|fail):g:=h
 exact wz
noncomputable def gP:NN:=bW iG uH [(0,28)]
noncomputable abbrev lK:XC:=gV
noncomputable def ft_clones_psub':NV (fun e0 b0=>aA [e0] [] [b0] 0xb3ba38522f13bb8384a7e3ad6df65a0a2edec839e558bc85c565154776ffd21869effd10797edc02fa94b):=⟨_,by conv=>rhs;reduce⟩
noncomputable abbrev wU:XF:=ft_clones_psub'.1 (eN 68 18 aF) lK
theorem rE:aK Tryz.prog 54 wU=true:=by kernel_rfl
structure mR where
 l:List Ke
 a:Nat
 n:Nat
 o:List Ke
 i:Int
structure vB where
 o:List Ke
noncomputable def wy:bM:=ce bQ 0 (fun p:mR=>((.cons 11 (.sy (.int 0 p.i)) (.cons 10 (.sy (.int 0 (p.n:Int))) (.cons 9 (.sy (.psub 0 18 p.a p.n 0 none)) (.cons 3 (.sy (.prow 1 p.o.length)) .nil)))),(.node (.node .leaf (some (bu p.o)) .leaf) (some (bu p.l)) .leaf),2)) (fun p=>p.a+p.n≤p.l.length∧p.n≤1000000∧0≤p.i∧p.i≤(p.n:Int)∧p.o=(p.l.drop p.a).take p.i.toNat) (fun p K=>aj fun r:vB=>iP (r.o=(p.l.drop p.a).take p.n∧r.o.length=p.n) (K 2 (.cons 3 (.sy (.prow 1 r.o.length)) .nil) (.node (.node .leaf (some (bu r.o)) .leaf) (some (bu p.l)) .leaf) 2) true)
theorem ts:bg Tryz.prog 27 1 wy true 0 lK:=lL (nat:=gP) (fun p:mR=>((p.n:Int) - p.i).toNat) cq (fun _ _ _ _=>rfl) fun p K hpre hK=>by
 dsimp only at hpre hK ⊢
 obtain⟨g0,g1,g2,g3,g4⟩:=hpre
 have ys {g:Prop} (h:g:=by first|(simp only[bU,akl,akn,g4,akA,akJ];omega;done)|fail):g:=h
 have yp {g:Prop} (h:g:=by first|(have e:p.o=(p.l.drop p.a).take p.n:=(by rw[g4];exact congrArg (fun m=>List.take m _) (by omega));exact⟨e,by(first|(rw[e];done)|(rw[e];simp;omega))⟩)|fail):g:=h
 have yb {g:Prop} (h:g:=by first|(refine⟨g0,g1,by omega,by omega,?_⟩;rw[show(p.i+1).toNat=p.i.toNat+1 by omega,g4];exact tkd (by assumption))|fail):g:=h
 have yq {g:Prop} (h:g:=by first|(refine wX [(.mk ..)] (by first|exact sd|exact ys) ?_;exact wz)|fail):g:=h
 exact wz
structure zh where
 l:List Ke
 a:Nat
 n:Nat
structure zd where
 h:Value
 o:List Ke
theorem wt:aB Tryz.prog 54 1 (aO (fun p:zh=>([.sy (.psub 0 18 p.a p.n 0 none)],(.node .leaf (some (bu p.l)) .leaf),1)) (fun p=>p.a+p.n≤p.l.length∧p.n≤1000000) (fun p K=>aj fun r:zd=>iP (r.o=(p.l.drop p.a).take p.n∧r.o.length=p.n) (K (.sy (.imm r.h 18 Ke r.o aF)) (.node .leaf (some (bu p.l)) .leaf) 1) true)):=nF (nat:=gP) rE (dC ts) fun p K hpre hK=>by
 dsimp only at hpre hK ⊢
 obtain⟨h1,h2⟩:=hpre
 have ys {g:Prop} (h:g:=by first|(exact⟨rfl,by omega⟩)|(first|omega|(simp;done)|(simp;omega)|(simp only[akA];omega);done)|fail):g:=h
 have yg {g:Prop} (h:g:=by first|(refine⟨h1,h2,by omega,by omega,rfl⟩)|fail):g:=h
 have yq {g:Prop} (h:g:=by first|(refine cn (.mk _ _ _ [] ..) (h:= ?_);exact wo)|fail):g:=h
 exact wz
noncomputable def iE:NN:=bW gP wt [(0,26)]
noncomputable def bd_l_pclones_imm':NV (cS [] [] [] 0x3891f7b9f74e3805b5d4c29d0005106a629c7ad91930e7f2ff515c9c5c03692c03292d740de2f3f64ae1ff7c):=⟨_,by conv=>rhs;reduce⟩
noncomputable abbrev lJ:XC:=bd_l_pclones_imm'.1
noncomputable def ft_pclones_imm':NV (fun e0 b0=>aA [e0] [] [b0] 0x398ded1559a7c905759dc7f4118d47aa1c50ea22aa591c6e53e38):=⟨_,by conv=>rhs;reduce⟩
noncomputable abbrev wT:XF:=ft_pclones_imm'.1 (eN 68 18 aF) lJ
theorem rD:aK Tryz.prog 132 wT=true:=by kernel_rfl
structure mQ where
 h:Value
 l:List Ke
 o:List Ke
 i:Int
structure vA where
 o:List Ke
noncomputable def wx:bM:=ce bQ 0 (fun p:mQ=>((.cons 8 (.sy (.int 0 p.i)) (.cons 7 (.sy (.int 0 (p.l.length:Int))) (.cons 6 (.sy (.imm p.h 18 Ke p.l aF)) (.cons 3 (.sy (.prow 0 p.o.length)) .nil)))),(.node .leaf (some (bu p.o)) .leaf),1)) (fun p=>p.l.length≤1000000∧0≤p.i∧p.i≤(p.l.length:Int)∧p.o=p.l.take p.i.toNat) (fun p K=>aj fun r:vA=>iP (r.o=p.l∧r.o.length=p.l.length) (K 2 (.cons 3 (.sy (.prow 0 r.o.length)) .nil) (.node .leaf (some (bu r.o)) .leaf) 1) true)
theorem tq:bg Tryz.prog 19 0 wx true 0 lJ:=lL (nat:=iE) (fun p:mQ=>((p.l.length:Int) - p.i).toNat) cq (fun _ _ _ _=>rfl) fun p K hpre hK=>by
 dsimp only at hpre hK ⊢
 obtain⟨g0,g1,g2,g3⟩:=hpre
 have ys {g:Prop} (h:g:=by first|(simp only[bU,akl,akn,g3,akA];omega;done)|fail):g:=h
 have yp {g:Prop} (h:g:=by first|(have e:p.o=p.l:=(by rw[g3];exact List.take_of_length_le (by omega));exact⟨e,by rw[e]⟩)|fail):g:=h
 have yb {g:Prop} (h:g:=by first|(refine⟨g0,by omega,by omega,?_⟩;rw[show(p.i+1).toNat=p.i.toNat+1 by omega,g3];exact tk (by assumption))|fail):g:=h
 have yq {g:Prop} (h:g:=by first|(refine wX [(.mk ..)] (by first|exact sd|exact ys) ?_;exact wz)|fail):g:=h
 exact wz
structure zg where
 h:Value
 l:List Ke
structure zc where
 h:Value
 o:List Ke
theorem wq:aB Tryz.prog 132 0 (aO (fun p:zg=>([.sy (.imm p.h 18 Ke p.l aF)],.leaf,0)) (fun p=>p.l.length≤1000000) (fun p K=>aj fun r:zc=>iP (r.o=p.l∧r.o.length=p.l.length) (K (.sy (.imm r.h 18 Ke r.o aF)) .leaf 0) true)):=nF (nat:=iE) rD (dC tq) fun p K hpre hK=>by
 dsimp only at hpre hK ⊢
 have h1:=hpre
 have yg {g:Prop} (h:g:=by first|(refine⟨h1,by omega,by omega,rfl⟩)|fail):g:=h
 have yq {g:Prop} (h:g:=by first|(refine cn (.mk _ _ [] ..) (h:= ?_);exact wo)|fail):g:=h
 exact wz
noncomputable def mw:NN:=bW iE wq [(0,23)]
noncomputable def ft_takG':NV (aA [] [] [] 0xa396eac1c43d6b0020f6742b9475386654e531b96c5eacd9b9d238a77fcdb1e39cb180479ff9e298ae3a68b8267a7ecd33ca088d6c3cf34b090f8333ba6cb8a30a062578575c1afa8f1aec88409449771e8747ecea4cfc7dc1c8a5208cda1f32b8870c07b2633d9b8026524f8fa2ac246c7335625dfe1cb5ad0b970590f197e):=⟨_,by conv=>rhs;reduce⟩
noncomputable abbrev XE:XF:=ft_takG'.1
theorem HM:aK Tryz.prog 109 XE=true:=by kernel_rfl
structure ahc where
 N:Int
 rh:Value
 m:List Int
 me:Int
 log:List Ke
 ba:Int
 com:Int
 sh:Bool
 hs:List (Int×Int)
 fr:Int
 h:Value
 l:List Ke
 c:Int
structure agm where
 q:Prop
 log:List Ke
 com:Int
theorem VP:aB Tryz.prog 109 1 (aO (fun p:ahc=>([.ptr 0 0,.sy (.int 0 p.fr),.sy (.imm p.h 18 Ke p.l aF),.sy (.int 0 p.c)],(.node (.node .leaf (some (bu p.log)) .leaf) (some (bZ p.N p.rh p.m p.me 1 p.log.length p.ba p.com (p.sh=true) 2)) (.node .leaf (some (.kmap true true false (Int×Int) p.hs aY aX)) .leaf)),3)) (fun p=>ROk p.m p.me p.log p.ba p.com p.hs∧0≤p.fr∧0≤p.c∧p.fr≤4294967296∧p.l.length≤1000000) (fun p K=>aj fun r:agm=>iP ((r.log,r.com)=gE p.m p.me p.log p.ba p.com p.sh p.fr p.l p.c) (K (.sy (.bool r.q)) (.node (.node .leaf (some (bu r.log)) .leaf) (some (bZ p.N p.rh p.m p.me 1 r.log.length p.ba r.com (p.sh=true) 2)) (.node .leaf (some (.kmap true true false (Int×Int) p.hs aY aX)) .leaf)) 3) true)):=nE (nat:=mw) HM fun p K hpre hK=>by
 dsimp only at hpre hK ⊢
 obtain⟨hpre,h0,h1,h2,h3⟩:=hpre
 have g4:=hpre.len
 have g5:=hpre.ba0
 have g6:=hpre.com0
 have g7:=hpre.com1
 have hm:=ah hpre.nl
 have hne:=List.length_pos_iff.2 (List.ne_nil_of_mem hpre.me)
 have nnq:=trivial
 have nnl:=trivial
 have ys {g:Prop} (h:g:=by first|(have hz:=hi.2;simp only[akA,akJ]at hz;unfold bU;omega;done)|fail):g:=h
 have yg {g:Prop} (h:g:=by first|(exact⟨List.ne_nil_of_mem hpre.me,hm⟩)|(first|omega|(simp only[akA,akJ];omega))|fail):g:=h
 have yp {g:Prop} (h:g:=by first|(first|(exfalso;have hz:=(hi).2;simp only[akA,akJ]at hz;omega)|exact acQ (fun h=>by first|exact absurd (by assumption) h.1|(have h4:=h.2;omega))|exact UL ⟨by assumption,by omega,by omega,by omega⟩ (fun h=>by first|exact absurd h.1 (by simp_all)|(have h4:=h.2;omega))|exact Eh ⟨by assumption,by omega,by omega,by omega⟩ ⟨by(have q:=(by assumption:¬p.sh=true);simpa using q),by omega⟩ ((hi).1.trans (List.take_of_length_le (by first|(simp;done)|fail)))|exact Eh ⟨by assumption,by omega,by omega,by omega⟩ ⟨by(have q:=(by assumption:¬p.sh=true);simpa using q),by omega⟩ (hi).1)|fail):g:=h
 have yq {g:Prop} (h:g:=by first|(refine wX _ (by first|exact sd|exact ys) ?_;exact wz)|fail):g:=h
 exact wz
noncomputable def Ay:NN:=bW mw VP [(0,4),(1,20),(2,23),(3,20)]
def kU (m:List Int) (me:Int) (log:List Ke) (hs:List (Int×Int)) (p:Int):Int×List Ke:=if m.head?=some me∧p∈m then (gS hs p,(log.drop (gS hs p).toNat).take 16) else (0,[])
theorem ac4 {m:List Int} {me:Int} {log:List Ke} {hs:List (Int×Int)} {p:Int} (h:¬(m.head?=some me∧p∈m)):((0:Int),([]:List Ke))=kU m me log hs p:=by unfold kU;rw[if_neg h]
theorem UT {m:List Int} {me:Int} {log o:List Ke} {ba com:Int} {hs:List (Int×Int)} {p:Int} {k:Nat} {x:Int×Int} (hr:ROk m me log ba com hs) (h:m.head?=some me∧p∈m) (hx:x∈hs∧(fun y:Int×Int=>y.1=p) x) (ho:o=(log.drop x.2.toNat).take k∧o.length=k) (hk:(k:Int)=min ((log.length:Int) - x.2) 16):(x.2,o)=kU m me log hs p:=by
 unfold kU
 rw[if_pos h,←ra (by rw[hr.keys];exact hr.nl.1) hx.1 hx.2,ho.1]
 congr 1
 refine List.take_eq_take_iff.2 ?_
 rw[akJ]
 have:=hr.has x hx.1
 omega
theorem Vi {m:List Int} {i:Int} {x n:Int} {hs:List (Int×Int)} (hi:0≤i) (h:hs=(m.take i.toNat).map fun y=>(y,n)) (hx:m[i.toNat]?=some x):hs++[(x,n)]=(m.take (i+1).toNat).map fun y=>(y,n):=by
 rw[show(i+1).toNat=i.toNat+1 by omega,List.take_add_one,hx,h]
 simp
theorem Vj {m:List Int} {i:Int} {x n:Int} {hs:List (Int×Int)} {j:Nat} {y:Int×Int} (hm:NL m) (h:hs=(m.take i.toNat).map fun y=>(y,n)) (hx:m[i.toNat]?=some x) (hy:hs[j]?=some y∧(fun y:Int×Int=>y.1=x) y):False:=by
 rw[h]at hy
 obtain⟨z,hz,e⟩:=List.mem_map.1 (akp hy.1)
 have e2:=hy.2
 rw[←e]at e2
 exact wg hm.1 hx (by simpa[←e2] using hz)
noncomputable def ft_sinG':NV (fun e0=>aA [e0] [] [] 0x11dcc9eadbd27bdc802bae9ff3878eaad60bbc610bb9f9f8d8108e4b128a922d1e40e37b2e39fbab4cf1889ddb42351e4677853ba202c063ac6c08c3f6b25d11c11aa05e9ac8fc7b2c53055a3238d4fcb8c42fb1f74e30943339):=⟨_,by conv=>rhs;reduce⟩
noncomputable abbrev XG:XF:=ft_sinG'.1 (eB 68 18 aF)
theorem HN:aK Tryz.prog 92 XG=true:=by kernel_rfl
structure ahd where
 N:Int
 rh:Value
 m:List Int
 me:Int
 log:List Ke
 ba:Int
 com:Int
 sh:Bool
 hs:List (Int×Int)
 p:Int
structure agn where
 z:Int
 h:Value
 l:List Ke
theorem VQ:aB Tryz.prog 92 3 (aO (fun p:ahd=>([.ptr 0 0,eu p.p,.int 0 (.ofNat 16)],(.node (.node .leaf (some (bu p.log)) .leaf) (some (bZ p.N p.rh p.m p.me 1 p.log.length p.ba p.com (p.sh=true) 2)) (.node .leaf (some (.kmap true true false (Int×Int) p.hs aY aX)) .leaf)),3)) (fun p=>ROk p.m p.me p.log p.ba p.com p.hs) (fun p K=>aj fun r:agn=>iP ((r.z,r.l)=kU p.m p.me p.log p.hs p.p) (K (.tup [.sy (.int 0 r.z),.sy (.imm r.h 18 Ke r.l aF)]) (.node (.node .leaf (some (bu p.log)) .leaf) (some (bZ p.N p.rh p.m p.me 1 p.log.length p.ba p.com (p.sh=true) 2)) (.node .leaf (some (.kmap true true false (Int×Int) p.hs aY aX)) .leaf)) 3) true)):=nE (nat:=Ay) HN fun p K hpre hK=>by
 dsimp only at hpre hK ⊢
 have g4:=hpre.len
 have hm:=ah hpre.nl
 have hne:=List.length_pos_iff.2 (List.ne_nil_of_mem hpre.me)
 have nnx:=trivial
 have nnr:=trivial
 have nnq:=trivial
 have ys {g:Prop} (h:g:=by first|(first|omega|(simp;done)|(simp;omega)|(simp only[akA];omega);done)|fail):g:=h
 have yg {g:Prop} (h:g:=by first|(exact⟨List.ne_nil_of_mem hpre.me,hm⟩)|(first|omega|(simp only[akA,akJ];omega))|fail):g:=h
 have yp {g:Prop} (h:g:=by first|(first|exact ac4 (fun h=>by first|exact absurd h.1 (by assumption)|exact absurd h.2 (by assumption))|exact xw hpre (Classical.not_not.1 (by assumption)) (by assumption)|exact UT hpre ⟨Classical.not_not.1 (by assumption),Classical.not_not.1 (by assumption)⟩ (by assumption) hi (by omega))|fail):g:=h
 have yz {g:Prop} (h:g:=by first|((try dsimp only);omega;done)|fail):g:=h
 have yj {g:Prop} (h:g:=by first|(have hb_x1:=hpre.has x1 (hi).1;exact wz)|fail):g:=h
 have ye {g:Prop} (h:g:=by first|(exact cQ hK (.mk _ _ [] ..))|fail):g:=h
 have yq {g:Prop} (h:g:=by first|(refine aW (fun y=>y.1=p.p) ?_;exact wz)|fail):g:=h
 exact wz
noncomputable def sZ:NN:=bW Ay VQ [(0,4),(1,15),(2,1)]
noncomputable def bd_l_newr':NV (cS [] [] [] 0xa9244db86765e57923dda8fafd41a0d2c311e4d18b78e7752b67067ece07da43d24ffb6cbbf3e1f258dc93f6):=⟨_,by conv=>rhs;reduce⟩
noncomputable abbrev yH:XC:=bd_l_newr'.1
noncomputable def ft_newrG':NV (fun a0 b0=>aA [] [a0] [b0] 0x740813862766ef9f8af2fec6fb93294cc64d989aa7eac01f1a8365f5ce72bda76a494f58f5f13d72834dce0a2ca2072020e981a29e1a5d0ee3640dfe1b8168298de0164b98d97f5e21909ba1e55f94cae555cbd6bd84b1d5b3af0a108c3e9ab89df73de0f0cfa63e4f3469d06e37c6df3713a46313cca5ac6d3cd15856af8321bd99d4f0684a39308a6e7981188a6d842b534b520393c11556d25ed9727611b3d3f0935fbe5064ac17404f1a4beaaf2c7ff2b4c7dca79ee8a39a7eda6226e31178c785ab0620066c478032ea14a30cd00debcfad1b8411afa51854bf731e077d1e1d2f591cad628380271a031b47e9cb279d288ab34cb2f3574eed83490f86a0abb678b9c):=⟨_,by conv=>rhs;reduce⟩
noncomputable abbrev Px:XF:=ft_newrG'.1 (.kb 2 true false (Int×Int) aY aX) yH
theorem DB:aK Tryz.prog 60 Px=true:=by kernel_rfl
structure Da where
 N:Int
 mh:Value
 m:List Int
 me:Int
 h:Value
 l:List Ke
 rh:Value
 o:List Ke
 i:Int
 hs:List (Int×Int)
structure QI where
 hs:List (Int×Int)
noncomputable def OF:bM:=ce bQ 0 (fun p:Da=>((.cons 39 (.sy (.int 0 p.i)) (.cons 38 (.sy (.int 0 (p.m.length:Int))) (.cons 37 (.sy (.imm p.mh 2 Int p.m am)) (.cons 7 (.ptr 0 0) (.cons 2 (.sy (.imm p.h 18 Ke p.l aF)) .nil))))),(.node (.node .leaf (some (bu p.o)) .leaf) (some (bZ p.N p.rh p.m p.me 1 p.o.length (p.l.length:Int) (p.l.length:Int) (false=true) 2)) (.node .leaf (some (.kmap true true false (Int×Int) p.hs aY aX)) .leaf)),3)) (fun p=>NL p.m∧¬p.m=[]∧¬p.N=0∧p.me∈p.m∧p.l.length≤400∧0≤p.i∧p.i≤(p.m.length:Int)∧p.hs=(p.m.take p.i.toNat).map fun y=>(y,(p.l.length:Int))) (fun p K=>aj fun r:QI=>iP (r.hs=p.m.map fun y=>(y,(p.l.length:Int))) (K 2 (.cons 7 (.ptr 0 0) .nil) (.node (.node .leaf (some (bu p.o)) .leaf) (some (bZ p.N p.rh p.m p.me 1 p.o.length (p.l.length:Int) (p.l.length:Int) (false=true) 2)) (.node .leaf (some (.kmap true true false (Int×Int) r.hs aY aX)) .leaf)) 3) true)
theorem Ko:bg Tryz.prog 52 0 OF true 0 yH:=lL (nat:=sZ) (fun p:Da=>((p.m.length:Int) - p.i).toNat) cq (fun _ _ _ _=>rfl) fun p K hpre hK=>by
 dsimp only at hpre hK ⊢
 obtain⟨g1,g2,g3,g4,g5,g6,g7,g8⟩:=hpre
 have hl:=ah g1
 have nnx:=trivial
 have ys {g:Prop} (h:g:=by first|(refine⟨?_,rfl⟩;have e:=(by assumption:_∧_).2;(try dsimp only at e);rw[←e];rfl;done)|fail):g:=h
 have yp {g:Prop} (h:g:=by first|(rw[g8,List.take_of_length_le (by omega)])|fail):g:=h
 have yb {g:Prop} (h:g:=by first|(first|exact⟨g1,g2,g3,g4,g5,by omega,by omega,Vi g6 g8 (by assumption)⟩|exact(Vj g1 g8 (by assumption) (by assumption)).elim)|fail):g:=h
 have yz {g:Prop} (h:g:=by first|((try dsimp only);omega;done)|fail):g:=h
 have yq {g:Prop} (h:g:=by first|(refine aW (fun y=>y.1=x1) ?_;exact wz)|(refine wY (x1,(p.l.length:Int)) (by first|exact sd|exact ys) (by first|exact sd|exact ys) ?_;exact wz)|(exact jS (.mk _ _ _ p.me p.h ..))|fail):g:=h
 exact wz
structure aan where
 N:Int
 mh:Value
 m:List Int
 me:Int
 h:Value
 l:List Ke
structure Zq where
 rh:Value
 log:List Ke
 hs:List (Int×Int)
theorem NS:aB Tryz.prog 60 0 (aO (fun p:aan=>([(ll p.N p.mh p.m),eu p.me,.sy (.imm p.h 18 Ke p.l aF)],.leaf,0)) (fun p=>NL p.m∧¬p.m=[]∧¬p.N=0∧p.me∈p.m∧p.l.length≤400) (fun p K=>aj fun r:Zq=>iP (r.log=p.l∧r.hs=p.m.map fun y=>(y,(p.l.length:Int))) (K (.ptr 0 0) (.node (.node .leaf (some (bu r.log)) .leaf) (some (bZ p.N r.rh p.m p.me 1 r.log.length (p.l.length:Int) (p.l.length:Int) (false=true) 2)) (.node .leaf (some (.kmap true true false (Int×Int) r.hs aY aX)) .leaf)) 3) true)):=nF (nat:=sZ) DB (dC Ko) fun p K hpre hK=>by
 dsimp only at hpre hK ⊢
 obtain⟨G1,G2,G3,G4,G5⟩:=hpre
 have hm:=ah G1
 have hne:=List.length_pos_iff.2 G2
 have nnx:=trivial
 have nnr:=trivial
 have nnq:=trivial
 have ys {g:Prop} (h:g:=by first|(first|rfl|exact(by assumption:_=p.m∧_).1)|(exact⟨rfl,⟨by simp,fun e he=>by simp at he⟩⟩;done)|fail):g:=h
 have yd {g:Prop} (h:g:=by first|(exfalso;first|omega|contradiction)|fail):g:=h
 have yg {g:Prop} (h:g:=by first|(refine⟨?_,?_,?_⟩<;>first|assumption|omega)|(first|omega|(simp only[akA,akJ];omega))|(exact⟨G1,G2,G3,G4,G5,by omega,by omega,rfl⟩)|fail):g:=h
 have yp {g:Prop} (h:g:=by first|(refine⟨?_,?_⟩<;>simp_all)|fail):g:=h
 have yz {g:Prop} (h:g:=by first|(first|rfl|exact(by assumption:_=p.m∧_).1)|(exact⟨rfl,⟨by simp,fun e he=>by simp at he⟩⟩;done)|fail):g:=h
 have yq {g:Prop} (h:g:=by first|(refine cn (.mk _ _ _ p.me p.h ..) (h:= ?_);exact wo)|(refine wX p.m (by first|exact sd|exact ys) ?_;exact wz)|(refine wX [] (by first|exact sd|exact ys) ?_;exact wz)|fail):g:=h
 exact wz
noncomputable def JE:NN:=bW sZ NS [(0,15),(1,15),(2,23)]
end Go.Proofs.Tryz
namespace Go.Proofs.Tryz
open Go.Proofs.YtjhpjjbnojbikaaGreat (yL zZ)
open Go Go.RowKit Go.Sy
open Go.Eng hiding aj
set_option maxRecDepth 1000000
set_option linter.unusedVariables false
set_option maxHeartbeats 4000000
attribute [local irreducible] aq
structure io where
 r:Int
 x:Int
structure yN where
 z:Int
def oq (p:io) (r:yN):Prop:=r.z=p.r*256+p.x
noncomputable def gm (p:io):IE:=([.sy (.int 3 p.r),.sy (.int 1 p.x)],.leaf,0)
noncomputable def uS (p:io) (K:KE) (r:yN):Bool:=K (.sy (.int 4 r.z)) .leaf 0
noncomputable def jp (p:io) (K:KE):Bool:=aj fun r=>iP (oq p r) (uS p K r) true
def jm (p:io):Prop:=0≤p.r∧p.r<4294967296∧0≤p.x∧p.x<256
theorem LJ {s:IE} {K:KE} (w:io) (e:∀t,gm w=t→s=t:=by first|(intro t h;dsimp only[gm]at h;subst h;exact rfl)|fail) (g:jm w:=by first|((try dsimp only[jm,oL,oN,Int.reduceNegSucc]);first|done|exact yg|trivial|assumption|omega|(refine⟨?_,?_,?_,?_⟩<;>omega))|fail) (h:jp w K=true):Cl s gm jm jp K:=wS w e g h
theorem Hj:aB Tryz.prog 101 0 (fg gm (iu jm jp)):=by
 intro us xs E ρ G F M nx w K R hE hs hd hk0 hr
 obtain⟨p,hk1⟩:=bj hk0
 obtain⟨e,hk2⟩:=ai hk1
 obtain⟨hpre,hk⟩:=ai hk2
 clear hk0 hk1 hk2
 have e1:us=(gm p).1:=congrArg Prod.fst e
 have e2:M=(gm p).2.1:=congrArg (fun x=>x.2.1) e
 have e3:nx=(gm p).2.2:=congrArg (fun x=>x.2.2) e
 clear e
 subst e1;subst e2;subst e3
 obtain⟨h1,h2,h3,h4⟩:=hpre
 obtain⟨x0,ys,q0,q1,rfl⟩:=bf hd
 obtain⟨x1,ys2,q2,q3,rfl⟩:=bf q1
 obtain rfl:ys2=[]:=by simpa[ax] using q3.symm
 obtain rfl:x0= .int .u32 p.r:=akH (q0.symm.trans rfl)
 obtain rfl:x1= .int .u8 p.x:=akH (q2.symm.trans rfl)
 refine(callsIn_wide.1 (yL p.r p.x h1 h2 h3 h4 w)).mono ?_
 rintro en w' ⟨rfl,rfl⟩
 exact hr _ _ _ E ρ _ _ (dx (p:=oq p ⟨p.r*256+p.x⟩) rfl (aU hk ⟨_⟩)) hE (MLe.refl _) (fun _ _ _ h=>h) hs rfl
noncomputable def Di:NN:=bW JE Hj [(0,20),(1,20)]
structure jh where
 x:Int
structure CN where
 z:Int
def ma (p:jh) (r:CN):Prop:=r.z=p.x / 256 % 4294967296
noncomputable def gY (p:jh):IE:=([.sy (.int 4 p.x)],.leaf,0)
noncomputable def pX (p:jh) (K:KE) (r:CN):Bool:=K (.sy (.int 3 r.z)) .leaf 0
noncomputable def iz (p:jh) (K:KE):Bool:=aj fun r=>iP (ma p r) (pX p K r) true
def kg (p:jh):Prop:=0≤p.x∧p.x<18446744073709551616
theorem Ck {s:IE} {K:KE} (w:jh) (e:∀t,gY w=t→s=t:=by first|(intro t h;dsimp only[gY]at h;subst h;exact rfl)|fail) (g:kg w:=by first|((try dsimp only[kg,oL,oN,Int.reduceNegSucc]);first|done|exact yg|trivial|assumption|omega|(constructor<;>omega))|fail) (h:iz w K=true):Cl s gY kg iz K:=wS w e g h
theorem JJ:aB Tryz.prog 114 0 (fg gY (iu kg iz)):=by
 intro us xs E ρ G F M nx w K R hE hs hd hk0 hr
 obtain⟨p,hk1⟩:=bj hk0
 obtain⟨e,hk2⟩:=ai hk1
 obtain⟨hpre,hk⟩:=ai hk2
 clear hk0 hk1 hk2
 have e1:us=(gY p).1:=congrArg Prod.fst e
 have e2:M=(gY p).2.1:=congrArg (fun x=>x.2.1) e
 have e3:nx=(gY p).2.2:=congrArg (fun x=>x.2.2) e
 clear e
 subst e1;subst e2;subst e3
 obtain⟨h1,h2⟩:=hpre
 obtain⟨x0,ys,q0,q1,rfl⟩:=bf hd
 obtain rfl:ys=[]:=by simpa[ax] using q1.symm
 obtain rfl:x0= .int .u64 p.x:=akH (q0.symm.trans rfl)
 refine(callsIn_wide.1 (zZ p.x h1 h2 w)).mono ?_
 rintro en w' ⟨rfl,rfl⟩
 exact hr _ _ _ E ρ _ _ (dx (p:=ma p ⟨p.x / 256 % 4294967296⟩) rfl (aU hk ⟨_⟩)) hE (MLe.refl _) (fun _ _ _ h=>h) hs rfl
noncomputable def uv:NN:=bW Di JJ [(0,20)]
noncomputable def ft_vclG':NV (aA [] [] [] 0x8e7446f55cb404327f84629124628429a2f6d026d535235f152c2ac697932a775169a9c0e):=⟨_,by conv=>rhs;reduce⟩
noncomputable abbrev XB:XF:=ft_vclG'.1
theorem HK:aK Tryz.prog 123 XB=true:=by kernel_rfl
structure aha where
 mh:Value
 m:List Int
 th:Value
 t:List Ke
structure agk where
 mh:Value
 m:List Int
 th:Value
 t:List Ke
theorem VN:aB Tryz.prog 123 0 (aO (fun p:aha=>([ED p.mh p.m p.th p.t],.leaf,0)) (fun p=>p.m.length≤1000000∧p.t.length≤1000000) (fun p K=>aj fun r:agk=>iP (r.m=p.m∧r.t=p.t) (K (ED r.mh r.m r.th r.t) .leaf 0) true)):=nE (nat:=uv) HK fun p K hpre hK=>by
 dsimp only at hpre hK ⊢
 obtain⟨h1,h2⟩:=hpre
 have nnh:=trivial
 have yg {g:Prop} (h:g:=by first|(first|omega|(simp only[akA,akJ];omega))|fail):g:=h
 have yp {g:Prop} (h:g:=by first|(exact⟨hi1.1,hi.1⟩)|fail):g:=h
 exact wz
noncomputable def Aw:NN:=bW uv VN [(0,15)]
end Go.Proofs.Tryz
namespace Go.Proofs.Tryz
open Go Go.RowKit Go.Sy
open Go.Eng hiding aj
set_option maxRecDepth 1000000
set_option linter.unusedVariables false
set_option maxHeartbeats 4000000
attribute [local irreducible] aq
structure Vl where
 mh:Value
 m:List Int
 th:Value
 t:List Ke
def cK (x:Vl):List PL:=[.imm x.mh 2 Int x.m am,.imm x.th 18 Ke x.t aF]
structure QOk (m:List Int) (ph:Int) (gt:List Int) (held:Option Vl) (qt:List Ke) (cm:List Int) (ct:List Ke):Prop where
 nl:NL m
 ne:¬m=[]
 nd:gt.Nodup
 sub:∀x∈gt,x∈m
 qt:qt.length≤400
 held:∀v,held=some v→v.m.length≤1000∧v.t.length≤400
 cm:cm.length≤1000
 ct:ct.length≤400
def fw (m:List Int) (ph:Int) (gt:List Int) (x z:Int):List Int:=if ph=z∧x∈m∧¬x∈gt then gt++[x] else gt
noncomputable def ft_startG':NV (fun e0 e1 e2 a0=>aA [e0,e1,e2] [a0] [] 0x1a7840d367fec718e2e0b8fc85b7d67aa9002bbe3e4ef57e4bbe8f5916986895b717afb2674c901f52989ba83d65f8a9d0a45393201969164dde54e9318e8039a):=⟨_,by conv=>rhs;reduce⟩
noncomputable abbrev KY:XF:=ft_startG'.1 (eJ cK) (eC 68 18 aF) (eC 52 2 am) (.kb 1 true false Int am cC)
theorem BI:aK Tryz.prog 100 KY=true:=by kernel_rfl
structure Rn where
 N:Int
 mh:Value
 m:List Int
 b:Int
structure QE where
 qh:Value
 gt:List Int
 hh:Value
 qth:Value
 qt:List Ke
 cmh:Value
 cm:List Int
 cth:Value
 ct:List Ke
theorem JI:aB Tryz.prog 100 0 (aO (fun p:Rn=>([(ll p.N p.mh p.m),.sy (.int 4 p.b)],.leaf,0)) (fun p=>NL p.m∧¬p.m=[]∧¬p.N=0∧¬p.b=0) (fun p K=>aj fun r:QE=>iP (r.gt=[]∧r.qt=[]∧r.cm=[]∧r.ct=[]) (K (.ptr 0 0) (.node (.node .leaf (some (.kmap true true false Int r.gt am cC)) .leaf) (some (.blk false 161 11 [[.int 1 (.ofNat 0),.sy (.int 3 p.N),.sy (.imm r.qh 2 Int p.m am),.sy (.int 4 p.b),.sy (.int 0 (0:Int)),.map 1,.sy (.int 4 (0:Int)),.sy (.vl r.hh true Vl (none:Option Vl) cK),.sy (.imm r.qth 18 Ke r.qt aF),.sy (.imm r.cmh 2 Int r.cm am),.sy (.imm r.cth 18 Ke r.ct aF)]])) .leaf) 2) true)):=nE (nat:=Aw) BI fun p K hpre hK=>by
 dsimp only at hpre hK ⊢
 obtain⟨G1,G2,G3,G4⟩:=hpre
 have hm:=ah G1
 have ys {g:Prop} (h:g:=by first|(first|rfl|exact(by assumption:_=p.m∧_).1)|(exact⟨rfl,⟨by simp,fun e he=>by simp at he⟩⟩;done)|fail):g:=h
 have yd {g:Prop} (h:g:=by first|(exfalso;omega)|fail):g:=h
 have yg {g:Prop} (h:g:=by first|(refine⟨?_,?_,?_⟩<;>first|assumption|omega)|fail):g:=h
 have yp {g:Prop} (h:g:=by first|(exact⟨rfl,rfl,rfl,rfl⟩)|fail):g:=h
 have ye {g:Prop} (h:g:=by first|(exact cQ hK (.mk _ _ _ _ [] _ [] _ [] ..))|fail):g:=h
 have yq {g:Prop} (h:g:=by first|(refine wX p.m (by first|exact sd|exact ys) ?_;exact wz)|(refine wX [] (by first|exact sd|exact ys) ?_;exact wz)|fail):g:=h
 exact wz
noncomputable def uu:NN:=bW Aw JI [(0,15),(1,20)]
theorem LD {m:List Int} {ph:Int} {gt:List Int} {x z:Int} (h:¬(ph=z∧x∈m∧¬x∈gt)):((false=true)↔(ph=z∧x∈m∧¬x∈gt))∧gt=fw m ph gt x z:=⟨⟨fun q=>by simp at q,fun q=>absurd q h⟩,by unfold fw;rw[if_neg h]⟩
theorem Fy {m:List Int} {ph:Int} {gt:List Int} {x z:Int} (h:ph=z∧x∈m∧¬x∈gt):((true=true)↔(ph=z∧x∈m∧¬x∈gt))∧gt++[x]=fw m ph gt x z:=⟨⟨fun _=>h,fun _=>rfl⟩,by unfold fw;rw[if_pos h]⟩
theorem Cd {m:List Int} {ph:Int} {gt:List Int} {x z:Int} (h1:gt.Nodup) (h2:∀y∈gt,y∈m):(fw m ph gt x z).Nodup∧∀y∈fw m ph gt x z,y∈m:=by
 unfold fw
 split
 ·rename_i q
  refine⟨List.nodup_append.2 ⟨h1,by simp,fun a ha b hb e=> ?_⟩,fun y hy=> ?_⟩
  ·simp only[List.mem_singleton]at hb
   subst hb;subst e;exact q.2.2 ha
  ·rcases akz.1 hy with hy|hy
   ·exact h2 y hy
   ·simp only[List.mem_singleton]at hy
    subst hy;exact q.2.1
 ·exact⟨h1,h2⟩
noncomputable def zOf (us:List AV) (a:Nat):Nat:=match bP us a with
 |some (.int _ (.ofNat z))=>z
 |_=>999
noncomputable def ft_count0':NV (aA [] [] [] 0x213e05d94a31d77421e4d2bfc536b91898edf7bd94a59c59321729bfc0e3bb0f3a52cad839608e7b27f7bdc9724cfe294111736a6f7980329720ced80a5c2e85df7d7d9a9):=⟨_,by conv=>rhs;reduce⟩
noncomputable abbrev Ln:XF:=ft_count0'.1
theorem qe:aK Tryz.prog 131 Ln=true:=by kernel_rfl
structure Rw where
 N:Int
 qh:Value
 m:List Int
 b:Int
 ph:Int
 gt:List Int
 best:Int
 hh:Value
 held:Option Vl
 qth:Value
 qt:List Ke
 cmh:Value
 cm:List Int
 cth:Value
 ct:List Ke
 x:Int
structure Ra where
 q:Prop
 gt:List Int
theorem JT:aB Tryz.prog 131 1 (aO (fun p:Rw=>([.ptr 0 0,eu p.x,.int 0 (.ofNat 0)],(.node (.node .leaf (some (.kmap true true false Int p.gt am cC)) .leaf) (some (.blk false 161 11 [[.int 1 (.ofNat 0),.sy (.int 3 p.N),.sy (.imm p.qh 2 Int p.m am),.sy (.int 4 p.b),.sy (.int 0 p.ph),.map 1,.sy (.int 4 p.best),.sy (.vl p.hh true Vl p.held cK),.sy (.imm p.qth 18 Ke p.qt aF),.sy (.imm p.cmh 2 Int p.cm am),.sy (.imm p.cth 18 Ke p.ct aF)]])) .leaf),2)) (fun p=>p.m.length≤8) (fun p K=>aj fun r:Ra=>iP ((r.q↔(p.ph=0∧p.x∈p.m∧¬p.x∈p.gt))∧r.gt=fw p.m p.ph p.gt p.x 0) (K (.sy (.bool r.q)) (.node (.node .leaf (some (.kmap true true false Int r.gt am cC)) .leaf) (some (.blk false 161 11 [[.int 1 (.ofNat 0),.sy (.int 3 p.N),.sy (.imm p.qh 2 Int p.m am),.sy (.int 4 p.b),.sy (.int 0 p.ph),.map 1,.sy (.int 4 p.best),.sy (.vl p.hh true Vl p.held cK),.sy (.imm p.qth 18 Ke p.qt aF),.sy (.imm p.cmh 2 Int p.cm am),.sy (.imm p.cth 18 Ke p.ct aF)]])) .leaf) 2) true)):=nE (nat:=uu) qe fun p K hpre hK=>by
 dsimp only at hpre hK ⊢
 have hm:=hpre
 have nnq:=trivial
 have ys {g:Prop} (h:g:=by first|(refine⟨?_,rfl⟩;have e:=(by assumption:_∧_).2;(try dsimp only at e);rw[←e];rfl;done)|fail):g:=h
 have yp {g:Prop} (h:g:=by first|(first|exact LD (fun h=>by first|exact absurd h.1 (by assumption)|exact absurd h.2.1 (by assumption)|exact h.2.2 (by have e:=(hi).2;(try dsimp only at e);rw[e];exact(hi).1))|exact Fy ⟨Classical.not_not.1 (by assumption),Classical.not_not.1 (by assumption),fun hx=>(by assumption:∀y∈p.gt,¬(fun y=>p.x=y) y) _ hx rfl⟩|exact absurd (hi).2 ((by assumption:∀y∈p.gt,¬(fun y=>p.x=y) y) _ (akp (hi).1)))|fail):g:=h
 have yz {g:Prop} (h:g:=by first|(first|assumption|(intro h;simp_all);done)|fail):g:=h
 have yq {g:Prop} (h:g:=by first|(refine aW (fun y=>p.x=y) ?_;exact wz)|(refine wX p.x (by first|exact sd|exact ys) ?_;exact wz)|fail):g:=h
 exact wz
noncomputable def uC:NN:=fK uu JT [(0,4),(1,15),(2,1)] (fun us M=>Nat.beq (zOf us 2) 0)
structure Rv where
 N:Int
 qh:Value
 m:List Int
 b:Int
 ph:Int
 gt:List Int
 best:Int
 hh:Value
 held:Option Vl
 qth:Value
 qt:List Ke
 cmh:Value
 cm:List Int
 cth:Value
 ct:List Ke
 x:Int
structure QZ where
 q:Prop
 gt:List Int
theorem JS:aB Tryz.prog 131 1 (aO (fun p:Rv=>([.ptr 0 0,eu p.x,.int 0 (.ofNat 1)],(.node (.node .leaf (some (.kmap true true false Int p.gt am cC)) .leaf) (some (.blk false 161 11 [[.int 1 (.ofNat 0),.sy (.int 3 p.N),.sy (.imm p.qh 2 Int p.m am),.sy (.int 4 p.b),.sy (.int 0 p.ph),.map 1,.sy (.int 4 p.best),.sy (.vl p.hh true Vl p.held cK),.sy (.imm p.qth 18 Ke p.qt aF),.sy (.imm p.cmh 2 Int p.cm am),.sy (.imm p.cth 18 Ke p.ct aF)]])) .leaf),2)) (fun p=>p.m.length≤8) (fun p K=>aj fun r:QZ=>iP ((r.q↔(p.ph=1∧p.x∈p.m∧¬p.x∈p.gt))∧r.gt=fw p.m p.ph p.gt p.x 1) (K (.sy (.bool r.q)) (.node (.node .leaf (some (.kmap true true false Int r.gt am cC)) .leaf) (some (.blk false 161 11 [[.int 1 (.ofNat 0),.sy (.int 3 p.N),.sy (.imm p.qh 2 Int p.m am),.sy (.int 4 p.b),.sy (.int 0 p.ph),.map 1,.sy (.int 4 p.best),.sy (.vl p.hh true Vl p.held cK),.sy (.imm p.qth 18 Ke p.qt aF),.sy (.imm p.cmh 2 Int p.cm am),.sy (.imm p.cth 18 Ke p.ct aF)]])) .leaf) 2) true)):=nE (nat:=uC) qe fun p K hpre hK=>by
 dsimp only at hpre hK ⊢
 have hm:=hpre
 have nnq:=trivial
 have ys {g:Prop} (h:g:=by first|(refine⟨?_,rfl⟩;have e:=(by assumption:_∧_).2;(try dsimp only at e);rw[←e];rfl;done)|fail):g:=h
 have yp {g:Prop} (h:g:=by first|(first|exact LD (fun h=>by first|exact absurd h.1 (by assumption)|exact absurd h.2.1 (by assumption)|exact h.2.2 (by have e:=(hi).2;(try dsimp only at e);rw[e];exact(hi).1))|exact Fy ⟨Classical.not_not.1 (by assumption),Classical.not_not.1 (by assumption),fun hx=>(by assumption:∀y∈p.gt,¬(fun y=>p.x=y) y) _ hx rfl⟩|exact absurd (hi).2 ((by assumption:∀y∈p.gt,¬(fun y=>p.x=y) y) _ (akp (hi).1)))|fail):g:=h
 have yz {g:Prop} (h:g:=by first|(first|assumption|(intro h;simp_all);done)|fail):g:=h
 have yq {g:Prop} (h:g:=by first|(refine aW (fun y=>p.x=y) ?_;exact wz)|(refine wX p.x (by first|exact sd|exact ys) ?_;exact wz)|fail):g:=h
 exact wz
noncomputable def uB:NN:=fK uC JS [(0,4),(1,15),(2,1)] (fun us M=>Nat.beq (zOf us 2) 1)
end Go.Proofs.Tryz
