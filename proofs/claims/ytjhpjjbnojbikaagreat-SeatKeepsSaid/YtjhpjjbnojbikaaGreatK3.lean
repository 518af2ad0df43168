/- Definitions and lemmas of the proof, without a condition of their own. -/
import Derived.Test.YtjhpjjbnojbikaaGreatK2
import Derived.Test.YtjhpjjbnojbikaaGreatProg
import Derived.KernelRfl
import Derived.Lib.AppendZeros
set_option linter.unusedSimpArgs false
set_option linter.unusedVariables false
open List renaming append_assoc→amb,cons_append→ama,eq_nil_of_length_eq_zero→amo,length_append→al2,length_cons→al3,length_drop→amr,length_map→al4,length_nil→al5,length_take→ami,map_cons→al9,mem_append→amh,mem_of_getElem?→al7,nil_append→amc
open Nat renaming le_refl→amj
open Option.some renaming inj→amp,injEq→amm
namespace Go.Proofs.Tryz
open Go Go.RowKit Go.Eng Go.Sy
set_option maxRecDepth 100000
def p_ (i d:Nat) (x:XO):XSt:=.p i (some d) none x
def iw (i d t:Nat) (b:Bool) (x:XO):XSt:=.p i (some d) (some (t,b)) x
def r_ (i d:Nat) (x:XO):XSt:=.r i (some d) none x
def rg_ (i d t:Nat) (b:Bool) (x:XO):XSt:=.r i (some d) (some (t,b)) x
def e_ (i d:Nat) (x:XO):XSt:=.e i (some d) none x
def c_ (i d f:Nat) (xs:List XP):XSt:=.c i (some d) none f xs
def CC (i d t:Nat) (b:Bool) (f:Nat) (xs:List XP):XSt:=.c i (some d) (some (t,b)) f xs
def m_ (n:Nat):XO:=.mv (.t n)
def n_ (n:Nat):XO:=.nck (.t n)
def f_ (k n:Nat):XO:=.fa k (.t n)
def l_ (n:Nat):XO:=.ld false 1 (.t n)
def k_ (n:Nat):XO:=.len 1 (.t n)
def i_ (n:Nat):XP:=.c (.int 0 (.ofNat n))
def o_ (n:Nat):AV:=.int 0 (.ofNat n)
def g_ (n:Nat) (l:List XSt):XC:=.reg false n (.leaf l)
def h_ (n:Nat) (l:List XSt):XC:=.reg true n (.leaf l)
def aw (f:Nat) (x:XF):Prop:=aK Tryz.prog f x=true∧plain (dR x)=true
noncomputable def tk12':NV (aB [] [] [] 0x7454934fa1c6c99557eb14a16a13e99801f8497f213863bc1b49f7746eef291f1):=⟨_,by conv=>rhs;reduce⟩
noncomputable abbrev ad0:XF:=tk12'.1
theorem adZ:aw 12 ad0:=⟨by kernel_rfl,by kernel_rfl⟩
noncomputable def tk13':NV (aB [] [] [] 0x158061944ba6a9bd4fd8dc84a1a01fd3fb044b65fcdd7553fadcf735ffe0db660de4c0):=⟨_,by conv=>rhs;reduce⟩
noncomputable abbrev adY:XF:=tk13'.1
theorem adX:aw 13 adY:=⟨by kernel_rfl,by kernel_rfl⟩
noncomputable def tk14':NV (aB [] [] [] 0x4f620a686f74f5ed384fffc):=⟨_,by conv=>rhs;reduce⟩
noncomputable abbrev adW:XF:=tk14'.1
theorem adV:aw 14 adW:=⟨by kernel_rfl,by kernel_rfl⟩
noncomputable def tk16':NV (aB [] [] [] 0x45a69253c3b08a7bd833e96e3dd3d2935ddf17f618568cde729cc):=⟨_,by conv=>rhs;reduce⟩
noncomputable abbrev adU:XF:=tk16'.1
theorem adT:aw 16 adU:=⟨by kernel_rfl,by kernel_rfl⟩
noncomputable def tk19':NV (aB [] [] [] 0x594abc3a0382cee753b20f6e3b8862076c8979a):=⟨_,by conv=>rhs;reduce⟩
noncomputable abbrev adS:XF:=tk19'.1
theorem adR:aw 19 adS:=⟨by kernel_rfl,by kernel_rfl⟩
noncomputable def tk21':NV (aB [] [] [] 0x4459e6ecedcc9eb084aee73f7170ad37):=⟨_,by conv=>rhs;reduce⟩
noncomputable abbrev adQ:XF:=tk21'.1
theorem adP:aw 21 adQ:=⟨by kernel_rfl,by kernel_rfl⟩
noncomputable def tk22':NV (aB [] [] [] 0x6b491c9672335026b731d7d0fbaabc3848e7e6828c94c6c89ada0f243a0bfd371799b504b9c4a9c4919):=⟨_,by conv=>rhs;reduce⟩
noncomputable abbrev adO:XF:=tk22'.1
theorem adN:aw 22 adO:=⟨by kernel_rfl,by kernel_rfl⟩
noncomputable def tk23':NV (aB [] [] [] 0x23c5ab520abb9c15a7a033c829bb840e93df1f15b83a17b4dda2a32663b886b61bd9464de0452bf6b217618a5009507e522836c17cf7968042aa880854049f512dae80e73708090de87900211eec):=⟨_,by conv=>rhs;reduce⟩
noncomputable abbrev adM:XF:=tk23'.1
theorem adL:aw 23 adM:=⟨by kernel_rfl,by kernel_rfl⟩
noncomputable def tk24':NV (aB [] [] [] 0x4d83cf73ac17c442b8b72c7f1d87e4e76f7aaf64386dfb0edeedfb1045ac6b28db9640e01b1f5):=⟨_,by conv=>rhs;reduce⟩
noncomputable abbrev adK:XF:=tk24'.1
theorem adJ:aw 24 adK:=⟨by kernel_rfl,by kernel_rfl⟩
noncomputable def tk25':NV (aB [] [] [] 0x6fca457664269933be32bf2e5d18efe09f5f982fc46cf405ca24d72d20c07ce):=⟨_,by conv=>rhs;reduce⟩
noncomputable abbrev adI:XF:=tk25'.1
theorem adH:aw 25 adI:=⟨by kernel_rfl,by kernel_rfl⟩
noncomputable def tk26':NV (aB [] [] [] 0x5a8017307e2d):=⟨_,by conv=>rhs;reduce⟩
noncomputable abbrev adG:XF:=tk26'.1
theorem adF:aw 26 adG:=⟨by kernel_rfl,by kernel_rfl⟩
noncomputable def tk30':NV (aB [] [] [] 0x14b866fdd6381c71be7733b086274c9143f78917305f41bfe9441d19681e078a8ddcf02d16ac):=⟨_,by conv=>rhs;reduce⟩
noncomputable abbrev adE:XF:=tk30'.1
theorem adD:aw 30 adE:=⟨by kernel_rfl,by kernel_rfl⟩
noncomputable def tk32':NV (aB [] [] [] 0x1c6cec6864dec9c42c74e322257f01bec81):=⟨_,by conv=>rhs;reduce⟩
noncomputable abbrev adC:XF:=tk32'.1
theorem adB:aw 32 adC:=⟨by kernel_rfl,by kernel_rfl⟩
noncomputable def tk33':NV (aB [] [] [] 0x3e4221c05f75a07f287a697b076826c):=⟨_,by conv=>rhs;reduce⟩
noncomputable abbrev adA:XF:=tk33'.1
theorem adz:aw 33 adA:=⟨by kernel_rfl,by kernel_rfl⟩
noncomputable def tk34':NV (aB [] [] [] 0x110e7ad17f30257375826009783d280233c):=⟨_,by conv=>rhs;reduce⟩
noncomputable abbrev ady:XF:=tk34'.1
theorem adx:aw 34 ady:=⟨by kernel_rfl,by kernel_rfl⟩
noncomputable def tk36':NV (aB [] [] [] 0x27043fca6dcbb2287fcf34e7ed7ae07abc7ca8ccdb3a8c24492b072577e1a397e4e95d16c152ae856396f30adf6e075ac75f3445e09b7b059168a08a00a117797be4cf3cced48e829d07e26d747b18ec):=⟨_,by conv=>rhs;reduce⟩
noncomputable abbrev adw:XF:=tk36'.1
theorem adv:aw 36 adw:=⟨by kernel_rfl,by kernel_rfl⟩
noncomputable def tk38':NV (aB [] [] [] 0x104b3f76c9c449b545d4f38206120b32ea3053dccc0b72):=⟨_,by conv=>rhs;reduce⟩
noncomputable abbrev adu:XF:=tk38'.1
theorem adt:aw 38 adu:=⟨by kernel_rfl,by kernel_rfl⟩
noncomputable def tk40':NV (aB [] [] [] 0x7d29cc24fc1e40e4518bcf3b4283388b627ed75754cd71911ba64e33274f22544539baaf23ff4c192772e9fc6):=⟨_,by conv=>rhs;reduce⟩
noncomputable abbrev ads:XF:=tk40'.1
theorem adr:aw 40 ads:=⟨by kernel_rfl,by kernel_rfl⟩
noncomputable def tk41':NV (aB [] [] [] 0x22c9b94c1e0f5c9e4d68087084df46e227feadee1d442e7df9f092382c2412df):=⟨_,by conv=>rhs;reduce⟩
noncomputable abbrev adq:XF:=tk41'.1
theorem adp:aw 41 adq:=⟨by kernel_rfl,by kernel_rfl⟩
noncomputable def tk42':NV (aB [] [] [] 0x154e57b8ab36bae337acc4039caa02de72):=⟨_,by conv=>rhs;reduce⟩
noncomputable abbrev ado:XF:=tk42'.1
theorem adn:aw 42 ado:=⟨by kernel_rfl,by kernel_rfl⟩
noncomputable def tk43':NV (aB [] [] [] 0x5ce15e9745ddc6bdde22acf0c319d230bde8717f31a3134700121c9c67191a148d0b7e5959cf8c969f71a9d8c7cc):=⟨_,by conv=>rhs;reduce⟩
noncomputable abbrev adm:XF:=tk43'.1
theorem adl:aw 43 adm:=⟨by kernel_rfl,by kernel_rfl⟩
noncomputable def tk44':NV (aB [] [] [] 0x2ada79d6831b1cc8b08c9bb73edfedeb4402a3058bb):=⟨_,by conv=>rhs;reduce⟩
noncomputable abbrev adk:XF:=tk44'.1
theorem adj:aw 44 adk:=⟨by kernel_rfl,by kernel_rfl⟩
noncomputable def tk45':NV (aB [] [] [] 0xe35367b712781205cf55069ba8afe83656):=⟨_,by conv=>rhs;reduce⟩
noncomputable abbrev adi:XF:=tk45'.1
theorem adh:aw 45 adi:=⟨by kernel_rfl,by kernel_rfl⟩
noncomputable def tk46':NV (aB [] [] [] 0x184f4c0ac0d46fc2cd44d939ebc2ba49167ab5b63c5c743a70624cf4d1237cc9e2baef8afe0eea0a20f59ea7a024396682d931a583d12b72d0fd3b35613add290d4f2eb11ce628036025367db6ba13e449c914d56452bc4c3a060c7c81f60f8a83cfd0733e25968943367798f59f178dfd19a66ac6b49e5ff20a8547adefa547ff55f872aaeae5a93bf01f122cae4e7d4ab3dad7258760485330da1b33b4e0c87678e7e47a658a4a5fd41e1448de3bf0dd0e942fc644b4f63746a8c21855d160116b7e63e052f92827d08a5966318):=⟨_,by conv=>rhs;reduce⟩
noncomputable abbrev adg:XF:=tk46'.1
theorem adf:aw 46 adg:=⟨by kernel_rfl,by kernel_rfl⟩
noncomputable def tk47':NV (aB [] [] [] 0x7a59fc8ee7add9183ecda33e9331aef51a6d9cd068f3181555428f5c438f57eb894ae43767182d75b9bbc5b37e3eff01188a7710acfa5bd53272eb71c056cccab91b41db0571d41a40a797ff742028bb80650d529537603d7e2f51249e260eb46):=⟨_,by conv=>rhs;reduce⟩
noncomputable abbrev ade:XF:=tk47'.1
theorem adc:aw 47 ade:=⟨by kernel_rfl,by kernel_rfl⟩
noncomputable def tk48':NV (aB [] [] [] 0x7615907e81509afcf89cc815c48f3c397ae63c3d972):=⟨_,by conv=>rhs;reduce⟩
noncomputable abbrev adb:XF:=tk48'.1
theorem ada:aw 48 adb:=⟨by kernel_rfl,by kernel_rfl⟩
noncomputable def tk52':NV (aB [] [] [] 0x368789c78287cb7a4f903b6bc098765e67322842b44da2ced191b9ed61fa4c5b80fcf0ecc53b7de2fc323dc3fd8fec6027557e9b3bfecb77a12f7):=⟨_,by conv=>rhs;reduce⟩
noncomputable abbrev ac9:XF:=tk52'.1
theorem ac8:aw 52 ac9:=⟨by kernel_rfl,by kernel_rfl⟩
noncomputable def tk53':NV (aB [] [] [] 0x13340c86b4fcebad5c617c42560cad514):=⟨_,by conv=>rhs;reduce⟩
noncomputable abbrev ac7:XF:=tk53'.1
theorem ac6:aw 53 ac7:=⟨by kernel_rfl,by kernel_rfl⟩
noncomputable def tk54':NV (aB [] [] [] 0xde9a5e108fd4e7635333f5222b6bee23399de9dc5d5b242bdd263c2406f77202efc3837538e0b341aebc0d9232782e6f229f3d5c633a29dc94db1d9541a3dd45ac786927d36a8):=⟨_,by conv=>rhs;reduce⟩
noncomputable abbrev ac5:XF:=tk54'.1
theorem ac4:aw 54 ac5:=⟨by kernel_rfl,by kernel_rfl⟩
noncomputable def tk55':NV (aB [] [] [] 0x1492787f7fee8f0b8c5):=⟨_,by conv=>rhs;reduce⟩
noncomputable abbrev ac3:XF:=tk55'.1
theorem ac2:aw 55 ac3:=⟨by kernel_rfl,by kernel_rfl⟩
noncomputable def tk56':NV (aB [] [] [] 0x19d24e4c57ca140912867bebbf466db8493acb23c4a54780591a364c4f99ad56511fd2c36beba295aad848344b7fbb1ad5cce72eb75779fe87041ac4cbdfc):=⟨_,by conv=>rhs;reduce⟩
noncomputable abbrev ac1:XF:=tk56'.1
theorem ac0:aw 56 ac1:=⟨by kernel_rfl,by kernel_rfl⟩
noncomputable def tk57':NV (aB [] [] [] 0x6e66edaae008a63b79112db1877c16):=⟨_,by conv=>rhs;reduce⟩
noncomputable abbrev acZ:XF:=tk57'.1
theorem acY:aw 57 acZ:=⟨by kernel_rfl,by kernel_rfl⟩
noncomputable def tk58':NV (aB [] [] [] 0x34237ac6b508fa45a39eceeb32c85fd64254f0fb72ca78b996415137f152607c7a628d1d698020ee7f17a5fbec387581a13bcda425ca8d90759e92f6b807d16b27eb2309956d9ce176a345e23e67691fdcefb084821ab6fe64a6946a2a27b0df2238b07e7b80f57ff04abb27a7351e3):=⟨_,by conv=>rhs;reduce⟩
noncomputable abbrev acX:XF:=tk58'.1
theorem acW:aw 58 acX:=⟨by kernel_rfl,by kernel_rfl⟩
noncomputable def tk59':NV (aB [] [] [] 0x48021410a6bf34834b40c661839c94449d3b1bf7a97173fd490cd22a8fea80b4e647661db0d061fe843da0331e6c2a):=⟨_,by conv=>rhs;reduce⟩
noncomputable abbrev acV:XF:=tk59'.1
theorem acU:aw 59 acV:=⟨by kernel_rfl,by kernel_rfl⟩
noncomputable def tk60':NV (aB [] [] [] 0xc793cf4b31010e74e1ea9eb756d5cc8e78c2bb3dc65dd8fd25b49bb647ea0a0925d001034ed32cac7a5ec787a1de2db465ed8f88098f8401efd99505a43880f050ed0ef27a6af29277b7125201be9ba00b45aa80e31ff7a0363384056ec6872823200e59f629e02fdc56a66456cf5e12a67d67396c4d8b27d2da70012e8b935a007d7dc1e6d13740bbbd15569e090adecb6e87f655d9d2cdce6df54758d2bbf4de209d114d96c244ebb15f2b15b9240036a5835b3c18ffc52eb80add111cf64c67c46c5696aa47ac02d227e1543df0ae3961edeebc667177d4cd8d835f821c589d07c7f4df70fbab045bddee70a3b666e8d8ee4afb3e0f480669a953df223e5f6f51cff29458a3cdc537da4eaa82d33aab410787c7ea):=⟨_,by conv=>rhs;reduce⟩
noncomputable abbrev acT:XF:=tk60'.1
theorem acS:aw 60 acT:=⟨by kernel_rfl,by kernel_rfl⟩
noncomputable def tk61':NV (aB [] [] [] 0x256691b5693637e8bb568d60acc):=⟨_,by conv=>rhs;reduce⟩
noncomputable abbrev acR:XF:=tk61'.1
theorem acQ:aw 61 acR:=⟨by kernel_rfl,by kernel_rfl⟩
noncomputable def tk62':NV (aB [] [] [] 0x5e563dc38525253dd8e3e93c5db60be1):=⟨_,by conv=>rhs;reduce⟩
noncomputable abbrev acP:XF:=tk62'.1
theorem acO:aw 62 acP:=⟨by kernel_rfl,by kernel_rfl⟩
noncomputable def tk63':NV (aB [] [] [] 0x5319491adf1e08c73f6d328eb0f62d40):=⟨_,by conv=>rhs;reduce⟩
noncomputable abbrev acN:XF:=tk63'.1
theorem acM:aw 63 acN:=⟨by kernel_rfl,by kernel_rfl⟩
noncomputable def tk64':NV (aB [] [] [] 0x2bb9bf87bd80c4360c810c13bfe6ee6):=⟨_,by conv=>rhs;reduce⟩
noncomputable abbrev acL:XF:=tk64'.1
theorem acK:aw 64 acL:=⟨by kernel_rfl,by kernel_rfl⟩
noncomputable def tk65':NV (aB [] [] [] 0x5e0f7f2dc90c4ebbf12543a0307f4da2aa1583553606b22fe056b0637a13):=⟨_,by conv=>rhs;reduce⟩
noncomputable abbrev acJ:XF:=tk65'.1
theorem acI:aw 65 acJ:=⟨by kernel_rfl,by kernel_rfl⟩
noncomputable def tk66':NV (aB [] [] [] 0x228c7ea6ae82006802e245da31e0419e19d04c595d2ee41164197fb6054146575fd8a77f91564cc027d60f20138ba3d03e6b22afd98eaffc00e8455fd0e977570e34df32f2a7f9503dd2fdb6ee4a833754797fe31c60820d64cef4b50538ff768776c5d3e545b642008f6553f6a0091a0e524634f7891297e834fcf1c6cfdaca3b1fe03b67b9f12bfb8091824c637fd958eb2436eb716437113d57a5fb24ebe58ded29a7e18a6b3a26411b47f44c6727fba883033a873d7badae498289edf7342107884565fd0a898cacfaf6f2add7e14799ed8a45d4b92513a445dd953119bd98d40e644d99232ef3164e8ea24ccafc21cc2691b74b71c):=⟨_,by conv=>rhs;reduce⟩
noncomputable abbrev acH:XF:=tk66'.1
theorem acG:aw 66 acH:=⟨by kernel_rfl,by kernel_rfl⟩
noncomputable def tk67':NV (aB [] [] [] 0x328c46de8341643358df98da0bdeb737ccaeb730377cc034902e1167484beba54281087c28df67d54ff9e2404ef):=⟨_,by conv=>rhs;reduce⟩
noncomputable abbrev acF:XF:=tk67'.1
theorem acE:aw 67 acF:=⟨by kernel_rfl,by kernel_rfl⟩
noncomputable def tk68':NV (aB [] [] [] 0x2cbfe40e013a8f4a1ecb82e485395ec15733afc7a6242ce99ab9109508235956fbe290a9a6d5989aff5444c01f3d2afe806de89aaef8aa65f3ac95b56e49b6f016b0eab0fc6e90b0a013bd43a168129d933dd9ef10ed73519454647c32940e6418e30d96696514f):=⟨_,by conv=>rhs;reduce⟩
noncomputable abbrev acD:XF:=tk68'.1
theorem acC:aw 68 acD:=⟨by kernel_rfl,by kernel_rfl⟩
noncomputable def tk69':NV (aB [] [] [] 0x2083b34e28050361a5ea1b343def97f27b300bea9cdd83b9e378f8959742a2b6bdc8f1a110346951b73ffef392c913284b047a6e44ff869fb4259202fa6af69e1bab69c5cdb2ad307a0ccb5ad):=⟨_,by conv=>rhs;reduce⟩
noncomputable abbrev acB:XF:=tk69'.1
theorem acA:aw 69 acB:=⟨by kernel_rfl,by kernel_rfl⟩
noncomputable def tk79':NV (aB [] [] [] 0x46fde29a3147ca2759e7499f35893ebbb2ad748ce8d4bbfade670ec6b8a83793c67d83235702201499df0cc9f60bb4adef3d8bfc42861c98a4cbb678004800aac3):=⟨_,by conv=>rhs;reduce⟩
noncomputable abbrev acz:XF:=tk79'.1
theorem acy:aw 79 acz:=⟨by kernel_rfl,by kernel_rfl⟩
noncomputable def tk80':NV (aB [] [] [] 0x1216eff0b231e551f167b999ba07e884a9fd2937055750d27be95beb481416d80c07ca2af3d3188ee9ed6474eed027db3dbd7b5d0f12992375b7487f680708b09c7241585bd46f7080b10a6fa8680c2f6ea1deba3d183913977657a08114d8a00cfd038):=⟨_,by conv=>rhs;reduce⟩
noncomputable abbrev acx:XF:=tk80'.1
theorem acw:aw 80 acx:=⟨by kernel_rfl,by kernel_rfl⟩
noncomputable def tk81':NV (aB [] [] [] 0x711d1c748205bc8bc1aff4de5b55a5b481e):=⟨_,by conv=>rhs;reduce⟩
noncomputable abbrev acv:XF:=tk81'.1
theorem acu:aw 81 acv:=⟨by kernel_rfl,by kernel_rfl⟩
noncomputable def tk85':NV (aB [] [] [] 0x7c4f37af20f87a855c27c41034b0d90daacdfd7a9f3767ba5b1c3289f05bef54e4e3fae9fc3b223f5a4f036bf480770c82c13d07cf09c345398feb86ad876b89f6029ec5e480115aa018e24ee5ed7707f402e22cfa37b13cc535a5bb9ec10d90e90f129ab8b91a4780b9f93d0f0943c39a8693f561191714cfdc3a2a67d3cb9):=⟨_,by conv=>rhs;reduce⟩
noncomputable abbrev acs:XF:=tk85'.1
theorem acr:aw 85 acs:=⟨by kernel_rfl,by kernel_rfl⟩
noncomputable def tk86':NV (aB [] [] [] 0x61686b15336241781ac027387c1d94fa295dcc8acb3f54588ea507a9533486):=⟨_,by conv=>rhs;reduce⟩
noncomputable abbrev acq:XF:=tk86'.1
theorem acp:aw 86 acq:=⟨by kernel_rfl,by kernel_rfl⟩
noncomputable def tk87':NV (aB [] [] [] 0xa4eda467fd1657ea0bcfd1e44d5a08211f5c1d8a5ba7901):=⟨_,by conv=>rhs;reduce⟩
noncomputable abbrev aco:XF:=tk87'.1
theorem acn:aw 87 aco:=⟨by kernel_rfl,by kernel_rfl⟩
noncomputable def tk88':NV (aB [] [] [] 0x211b76827f9f65beda3f7bac29b572f0142137b2820e20d):=⟨_,by conv=>rhs;reduce⟩
noncomputable abbrev acm:XF:=tk88'.1
theorem acl:aw 88 acm:=⟨by kernel_rfl,by kernel_rfl⟩
noncomputable def tk89':NV (aB [] [] [] 0x217f4aef8e9423e6a1038eac1ea8a7d0a7e):=⟨_,by conv=>rhs;reduce⟩
noncomputable abbrev acj:XF:=tk89'.1
theorem aci:aw 89 acj:=⟨by kernel_rfl,by kernel_rfl⟩
noncomputable def tk90':NV (aB [] [] [] 0x73cc9a0d10ea628e2043dd0e406c4bfe):=⟨_,by conv=>rhs;reduce⟩
noncomputable abbrev ach:XF:=tk90'.1
theorem acg:aw 90 ach:=⟨by kernel_rfl,by kernel_rfl⟩
noncomputable def tk91':NV (aB [] [] [] 0x7e6e33766269cc6bf80ea93ea37348bd4148e9d53abe972af31):=⟨_,by conv=>rhs;reduce⟩
noncomputable abbrev acf:XF:=tk91'.1
theorem ace:aw 91 acf:=⟨by kernel_rfl,by kernel_rfl⟩
noncomputable def tk93':NV (aB [] [] [] 0x14c010b79242d13d308f2d7bb1be38fb):=⟨_,by conv=>rhs;reduce⟩
noncomputable abbrev acd:XF:=tk93'.1
theorem acb:aw 93 acd:=⟨by kernel_rfl,by kernel_rfl⟩
noncomputable def tk94':NV (aB [] [] [] 0x38cc4bc58ba662ff537857469fc910242292daad5a9f3c2e958):=⟨_,by conv=>rhs;reduce⟩
noncomputable abbrev aca:XF:=tk94'.1
theorem ab9:aw 94 aca:=⟨by kernel_rfl,by kernel_rfl⟩
noncomputable def tk95':NV (aB [] [] [] 0x10351387d922f3a913126fa135d06eae85):=⟨_,by conv=>rhs;reduce⟩
noncomputable abbrev ab8:XF:=tk95'.1
theorem ab7:aw 95 ab8:=⟨by kernel_rfl,by kernel_rfl⟩
noncomputable def tk103':NV (aB [] [] [] 0xb0c04f647297cc79a35d23f4f51954b617b1862be8e0f0f6):=⟨_,by conv=>rhs;reduce⟩
noncomputable abbrev TJ:XF:=tk103'.1
theorem VQ:aw 103 TJ:=⟨by kernel_rfl,by kernel_rfl⟩
noncomputable def tk106':NV (aB [] [] [] 0x115376564713043478f9cbf2a0990ed33d72415ed55686d6c):=⟨_,by conv=>rhs;reduce⟩
noncomputable abbrev TI:XF:=tk106'.1
theorem VP:aw 106 TI:=⟨by kernel_rfl,by kernel_rfl⟩
noncomputable def tk110':NV (aB [] [] [] 0x638fc446876d3dc06639db6f53ede19ca):=⟨_,by conv=>rhs;reduce⟩
noncomputable abbrev TH:XF:=tk110'.1
theorem VO:aw 110 TH:=⟨by kernel_rfl,by kernel_rfl⟩
noncomputable def tk111':NV (aB [] [] [] 0x9ba4e75090886bcb6a5bb8dbc25d4b1):=⟨_,by conv=>rhs;reduce⟩
noncomputable abbrev TG:XF:=tk111'.1
theorem VN:aw 111 TG:=⟨by kernel_rfl,by kernel_rfl⟩
noncomputable def tk112':NV (aB [] [] [] 0x12598e25d42d0d934db49b03f4e19dd1658b8d4f07b0f3dd468202e23105ab6975af0f1d07e378bc5a5165bb41aa889):=⟨_,by conv=>rhs;reduce⟩
noncomputable abbrev TF:XF:=tk112'.1
theorem VM:aw 112 TF:=⟨by kernel_rfl,by kernel_rfl⟩
noncomputable def tk113':NV (aB [] [] [] 0x6718745f3ecaf8e8d3a849e58ce1):=⟨_,by conv=>rhs;reduce⟩
noncomputable abbrev TE:XF:=tk113'.1
theorem VK:aw 113 TE:=⟨by kernel_rfl,by kernel_rfl⟩
noncomputable def tk117':NV (aB [] [] [] 0x23f9f5913bc532ce34a8eb4bf524fda9813d9702263feba312802fd274a40ce12b4b4e10ee2a):=⟨_,by conv=>rhs;reduce⟩
noncomputable abbrev TD:XF:=tk117'.1
theorem VJ:aw 117 TD:=⟨by kernel_rfl,by kernel_rfl⟩
noncomputable def tk120':NV (aB [] [] [] 0x189b27ec63fa74421a64c7b85d703f35150ae71e05defdd5c212aa4f93f8c403df2dbb75eaa027b175753c20a4cd5522cdc467f5ed127b50436e1734b93c4f7e835e0c747f6a508587ac2d34119c1ef5792bc00bc8a03ce469484b67be2629eda0d3532c60daad6faa931a920da27c9c9fe930f804a01951a1ce8071e79c29ea4679e7aa4823978fa6c123e05b366502d610e1b4197087a6fc16802182ce064d70307ff0ea9c8b22d38376d22080aa7ace947f2b974111cbc2d74944eaf9cf3cae1b3494aa4db8d1a138b8e4a3ad5be3bb413e01acfdb8cf12dab235d8e18c3ba86561b8a7645e578adc52d82679fd5e0fb3c3616eeac2e08161c1cd8e0a8a2a9cfa8594d2652158bf3185d):=⟨_,by conv=>rhs;reduce⟩
noncomputable abbrev TC:XF:=tk120'.1
theorem VH:aw 120 TC:=⟨by kernel_rfl,by kernel_rfl⟩
noncomputable def tk121':NV (aB [] [] [] 0x20724d1d23b6fa9d6f577505cbb298923):=⟨_,by conv=>rhs;reduce⟩
noncomputable abbrev TB:XF:=tk121'.1
theorem VF:aw 121 TB:=⟨by kernel_rfl,by kernel_rfl⟩
noncomputable def tk122':NV (aB [] [] [] 0x815ea53aa856b5a87bb5e57a9613023f):=⟨_,by conv=>rhs;reduce⟩
noncomputable abbrev TA:XF:=tk122'.1
theorem VE:aw 122 TA:=⟨by kernel_rfl,by kernel_rfl⟩
noncomputable def tk124':NV (aB [] [] [] 0x597590df8d7b904c3e179a81673095d29b01f5):=⟨_,by conv=>rhs;reduce⟩
noncomputable abbrev Tz:XF:=tk124'.1
theorem VD:aw 124 Tz:=⟨by kernel_rfl,by kernel_rfl⟩
noncomputable def tk127':NV (aB [] [] [] 0x920794328244bae6ccd4570cbb99f5):=⟨_,by conv=>rhs;reduce⟩
noncomputable abbrev Tx:XF:=tk127'.1
theorem VC:aw 127 Tx:=⟨by kernel_rfl,by kernel_rfl⟩
noncomputable def tk128':NV (aB [] [] [] 0x11a3ccdd21ad434104ea91f97482d2ea89ea698307f284d19ee61e59):=⟨_,by conv=>rhs;reduce⟩
noncomputable abbrev Tw:XF:=tk128'.1
theorem VB:aw 128 Tw:=⟨by kernel_rfl,by kernel_rfl⟩
noncomputable def tk129':NV (aB [] [] [] 0x4aa8b221a73847e74cc972595ca5ef1):=⟨_,by conv=>rhs;reduce⟩
noncomputable abbrev Tv:XF:=tk129'.1
theorem VA:aw 129 Tv:=⟨by kernel_rfl,by kernel_rfl⟩
noncomputable def tk130':NV (aB [] [] [] 0x1cc45421029af6daba603f089):=⟨_,by conv=>rhs;reduce⟩
noncomputable abbrev Tu:XF:=tk130'.1
theorem Vz:aw 130 Tu:=⟨by kernel_rfl,by kernel_rfl⟩
noncomputable def tk136':NV (aB [] [] [] 0x7aaa3141d5f2f4f69e3743ca5011bbb99e82bc6852d06d3643fc33d503469df802b8076b4ba29b452097f4e0f8873ec3e8c67e89f93ca4da5f93931d0e6f211154636d7eb7bf316dcf039c212bf4ecb39fdef86ccfa9a1e7a40b877253687b42e62b949c88ffa33faa2f48ece0d9b223fb33c724956a3ed15eac93ad8854b0d93419de0bf47396f6d636b33b18e8d87083b919f2b53775860aed67babc39851c1c68c3953541e91bb0dcfdce1681c7f80645462f7bc1135c535ec7f98185260166a0d570670ab6f7e3dd29cb74ccce06e66a6f1d2ea13253b56136a09b31b1140701f985f05acc86818bf864a334b0158705168e3fa9c4f9347ab9c6309d4825e0711332020c15637a44d0cd2d5dd760125e1338ec65f113249de15372a5bf8eb6fd4179db2f7c2af8ffbf49b0bf7b282df6ec2d15f6bec88f85bb8ab66d3a28415c4e29dff3b010a9460a052102367e):=⟨_,by conv=>rhs;reduce⟩
noncomputable abbrev Tt:XF:=tk136'.1
theorem Vy:aw 136 Tt:=⟨by kernel_rfl,by kernel_rfl⟩
noncomputable def tk137':NV (aB [] [] [] 0x17f966eeb5c84475eebe6313660a915a458ff05d7caec7d4e2c72257873787b6a243b3b3820eeb92c6b9f091c510d080fd279e1eefa726e36b780b6f638686feb716bf8838793878742a678afcefcacf42196e7f7ea11c9be57bb01ba78dda74fd4f1bdc6e27b43bf76298311449187a213620b01011e4dbb0b970b34054d53b89ccc7b3941ca8ca4ba357b0068612728c1c38eae2f666e10a31ebf49dff0c4a0f354e54c9e68092a0b56863b0fc17840f18a963d4f63e715bbc95625b2a44b0f05d4f289c7ad0e873ff8c8a69e388d1d421521ec6d2a9d1807e0eeaf526aed394b3):=⟨_,by conv=>rhs;reduce⟩
noncomputable abbrev Ts:XF:=tk137'.1
theorem Vx:aw 137 Ts:=⟨by kernel_rfl,by kernel_rfl⟩
noncomputable def tk138':NV (aB [] [] [] 0x10e70eb91af1dfaee419c6b7c9137d65eb3acef687336507cef41abca975044d7e4f6e8e601a5e94407a3dbe4f44905031dace0572121ee54f0b780c044b1ee7561df0be9a35e12f949a785d1ac63838a8691db7a7dd4e2e6a97c26f2332ca7bab236d4e45fd912a8ddaaa75aa8f19d8ec42fb00aebbbdc5017665faff7ded18f28b0b9cc597bd090aa8c8c1d0af7410cda9965dcc6be48c92d937d3d16380803bd184b4e3e66e97fb9d1178d6cc5935fe316e3429ff00faf184c507c358e38dcbe3376c18da4903a9944cae7026cbb4646208d634638d4c91f3355ed62e270bcd6bccebf6aa9ce2c6284bea9cee06a1218c894dea11ac7f312bfa67e035ed38a7f6befef3f56948a24e701763f73286226a69be9576bd254a209e584458cadaf82627f4ffe347fb9fa928003615b48b56bc3797d4cc8434366d87dcbc5228e5dab965f8443d00c439e747b48c19b322b28369aa61042487c26d071d24ab51ff080f1de229a7934f327355430ab2c06faffe42784b983274b26f13077b4b4dac81978d2f5bfd20ae3228bcb9982253b2532d24e9ac557f2f8f1482636f32b1095b2f42d8c2d167965561f16da7e25f27c9f0e7239cb2ef89):=⟨_,by conv=>rhs;reduce⟩
noncomputable abbrev Tq:XF:=tk138'.1
theorem Vv:aw 138 Tq:=⟨by kernel_rfl,by kernel_rfl⟩
noncomputable def tk139':NV (aB [] [] [] 0x3e261d6e2ec796a4d0c02f82934a94eaa):=⟨_,by conv=>rhs;reduce⟩
noncomputable abbrev Tp:XF:=tk139'.1
theorem Vu:aw 139 Tp:=⟨by kernel_rfl,by kernel_rfl⟩
noncomputable def tk141':NV (aB [] [] [] 0x5b2bfc09e52217c9ac308a7723ea2cadc73):=⟨_,by conv=>rhs;reduce⟩
noncomputable abbrev To:XF:=tk141'.1
theorem Vt:aw 141 To:=⟨by kernel_rfl,by kernel_rfl⟩
noncomputable def tk145':NV (aB [] [] [] 0x7d9ee195839b493e7f47144cdbe7be7f34d50c8e4e73dd68155dd898ecdb3ed587cd300a001b5bf3e7fbb94b6c5f97f92dba77b1ae28b0930e8c89f77808b9243a460b413115de461c901a82e516055d140002a06560097188966994ca5a2b9acd6422614419f24bea7eff):=⟨_,by conv=>rhs;reduce⟩
noncomputable abbrev Tn:XF:=tk145'.1
theorem Vs:aw 145 Tn:=⟨by kernel_rfl,by kernel_rfl⟩
noncomputable def tk155':NV (aB [] [] [] 0x40d3567c9775b6b2f9f640d08967e2fc23e4f44917961ebf1cfd504dd7e95e4eb8c24cd2c96de97d8e1c150fff7220478b6fa203808e95015528d34fe76cbf8ee65b724b67f287da55a407a4172d84046db2eeb8aa915d665989d1b87b65185594405dd400bed9719af50131ff2a7b91737d186b743dff5425aa8348c24b28aefbfc3fc0b5d8dc273f2d69639e985fbaf0311f5c76):=⟨_,by conv=>rhs;reduce⟩
noncomputable abbrev Tm:XF:=tk155'.1
theorem Vr:aw 155 Tm:=⟨by kernel_rfl,by kernel_rfl⟩
noncomputable def tk157':NV (aB [] [] [] 0x2505f67290ba631b2e202cf5):=⟨_,by conv=>rhs;reduce⟩
noncomputable abbrev Tl:XF:=tk157'.1
theorem Vq:aw 157 Tl:=⟨by kernel_rfl,by kernel_rfl⟩
noncomputable def tk159':NV (aB [] [] [] 0x5c07d928610d2955155bc400de54453):=⟨_,by conv=>rhs;reduce⟩
noncomputable abbrev Tk:XF:=tk159'.1
theorem Vp:aw 159 Tk:=⟨by kernel_rfl,by kernel_rfl⟩
noncomputable def tk163':NV (aB [] [] [] 0x642e7469cd95c709c016f4c7e6ce06528b9c230337741c74f):=⟨_,by conv=>rhs;reduce⟩
noncomputable abbrev Tj:XF:=tk163'.1
theorem Vo:aw 163 Tj:=⟨by kernel_rfl,by kernel_rfl⟩
noncomputable def tk164':NV (aB [] [] [] 0x110f7c59010763b738d265a65788d002):=⟨_,by conv=>rhs;reduce⟩
noncomputable abbrev Ti:XF:=tk164'.1
theorem Vm:aw 164 Ti:=⟨by kernel_rfl,by kernel_rfl⟩
noncomputable def tk165':NV (aB [] [] [] 0xc4948ab495c6877f3a9a8f58c85262db6496c9cd97e724416d0d2e9211f2e0ea1134a1f6b4fbbc01ba9a4fd9ffb0704e8a7b4b6ebc7313142907e33b55b382a9c4e):=⟨_,by conv=>rhs;reduce⟩
noncomputable abbrev Th:XF:=tk165'.1
theorem Vk:aw 165 Th:=⟨by kernel_rfl,by kernel_rfl⟩
noncomputable def tk166':NV (aB [] [] [] 0x1af6617b322b0339aaaab4700011bb1a45c95046161f745c0f4f771):=⟨_,by conv=>rhs;reduce⟩
noncomputable abbrev Tf:XF:=tk166'.1
theorem Vj:aw 166 Tf:=⟨by kernel_rfl,by kernel_rfl⟩
noncomputable def tk167':NV (aB [] [] [] 0x867507c1da0ac222ffa5bde904a7bee18609db63cf7cff3d6a7263e6abf7a1fb6c3530f303):=⟨_,by conv=>rhs;reduce⟩
noncomputable abbrev Te:XF:=tk167'.1
theorem Vi:aw 167 Te:=⟨by kernel_rfl,by kernel_rfl⟩
noncomputable def tk175':NV (aB [] [] [] 0x27b2f099d304ef4460):=⟨_,by conv=>rhs;reduce⟩
noncomputable abbrev Td:XF:=tk175'.1
theorem Vh:aw 175 Td:=⟨by kernel_rfl,by kernel_rfl⟩
noncomputable def tk179':NV (aB [] [] [] 0x6718745f3ecaf8e8d3a849e58ce1):=⟨_,by conv=>rhs;reduce⟩
noncomputable abbrev Tc:XF:=tk179'.1
theorem Vg:aw 179 Tc:=⟨by kernel_rfl,by kernel_rfl⟩
noncomputable def tk180':NV (aB [] [] [] 0x53d1dcf1db641ea65f5ec572):=⟨_,by conv=>rhs;reduce⟩
noncomputable abbrev Tb:XF:=tk180'.1
theorem Vf:aw 180 Tb:=⟨by kernel_rfl,by kernel_rfl⟩
noncomputable def tk181':NV (aB [] [] [] 0x2163a4c30c9328e243809335e9cd976):=⟨_,by conv=>rhs;reduce⟩
noncomputable abbrev Ta:XF:=tk181'.1
theorem Ve:aw 181 Ta:=⟨by kernel_rfl,by kernel_rfl⟩
noncomputable def JF (f:Nat):Option XF:=(Bool.rec (Bool.rec (Bool.rec (Bool.rec (Bool.rec (Bool.rec (Bool.rec (Bool.rec none (some Ta) (Nat.beq f 181)) (Bool.rec none (some Tb) (Nat.beq f 180)) (Nat.blt f 181)) (Bool.rec none (some Tc) (Nat.beq f 179)) (Nat.blt f 180)) (Bool.rec (Bool.rec (Bool.rec none (some Td) (Nat.beq f 175)) (Bool.rec none (some Te) (Nat.beq f 167)) (Nat.blt f 175)) (Bool.rec none (some Tf) (Nat.beq f 166)) (Nat.blt f 167)) (Nat.blt f 179)) (Bool.rec (Bool.rec (Bool.rec (Bool.rec none (some Th) (Nat.beq f 165)) (Bool.rec none (some Ti) (Nat.beq f 164)) (Nat.blt f 165)) (Bool.rec none (some Tj) (Nat.beq f 163)) (Nat.blt f 164)) (Bool.rec (Bool.rec (Bool.rec none (some Tk) (Nat.beq f 159)) (Bool.rec none (some Tl) (Nat.beq f 157)) (Nat.blt f 159)) (Bool.rec none (some Tm) (Nat.beq f 155)) (Nat.blt f 157)) (Nat.blt f 163)) (Nat.blt f 166)) (Bool.rec (Bool.rec (Bool.rec (Bool.rec (Bool.rec none (some Tn) (Nat.beq f 145)) (Bool.rec none (some To) (Nat.beq f 141)) (Nat.blt f 145)) (Bool.rec none (some Tp) (Nat.beq f 139)) (Nat.blt f 141)) (Bool.rec (Bool.rec (Bool.rec none (some Tq) (Nat.beq f 138)) (Bool.rec none (some Ts) (Nat.beq f 137)) (Nat.blt f 138)) (Bool.rec none (some Tt) (Nat.beq f 136)) (Nat.blt f 137)) (Nat.blt f 139)) (Bool.rec (Bool.rec (Bool.rec (Bool.rec none (some Tu) (Nat.beq f 130)) (Bool.rec none (some Tv) (Nat.beq f 129)) (Nat.blt f 130)) (Bool.rec none (some Tw) (Nat.beq f 128)) (Nat.blt f 129)) (Bool.rec (Bool.rec none (some Tx) (Nat.beq f 127)) (Bool.rec none (some Tz) (Nat.beq f 124)) (Nat.blt f 127)) (Nat.blt f 128)) (Nat.blt f 136)) (Nat.blt f 155)) (Bool.rec (Bool.rec (Bool.rec (Bool.rec (Bool.rec (Bool.rec none (some TA) (Nat.beq f 122)) (Bool.rec none (some TB) (Nat.beq f 121)) (Nat.blt f 122)) (Bool.rec none (some TC) (Nat.beq f 120)) (Nat.blt f 121)) (Bool.rec (Bool.rec (Bool.rec none (some TD) (Nat.beq f 117)) (Bool.rec none (some TE) (Nat.beq f 113)) (Nat.blt f 117)) (Bool.rec none (some TF) (Nat.beq f 112)) (Nat.blt f 113)) (Nat.blt f 120)) (Bool.rec (Bool.rec (Bool.rec (Bool.rec none (some TG) (Nat.beq f 111)) (Bool.rec none (some TH) (Nat.beq f 110)) (Nat.blt f 111)) (Bool.rec none (some TI) (Nat.beq f 106)) (Nat.blt f 110)) (Bool.rec (Bool.rec none (some TJ) (Nat.beq f 103)) (Bool.rec none (some ab8) (Nat.beq f 95)) (Nat.blt f 103)) (Nat.blt f 106)) (Nat.blt f 112)) (Bool.rec (Bool.rec (Bool.rec (Bool.rec (Bool.rec none (some aca) (Nat.beq f 94)) (Bool.rec none (some acd) (Nat.beq f 93)) (Nat.blt f 94)) (Bool.rec none (some acf) (Nat.beq f 91)) (Nat.blt f 93)) (Bool.rec (Bool.rec (Bool.rec none (some ach) (Nat.beq f 90)) (Bool.rec none (some acj) (Nat.beq f 89)) (Nat.blt f 90)) (Bool.rec none (some acm) (Nat.beq f 88)) (Nat.blt f 89)) (Nat.blt f 91)) (Bool.rec (Bool.rec (Bool.rec (Bool.rec none (some aco) (Nat.beq f 87)) (Bool.rec none (some acq) (Nat.beq f 86)) (Nat.blt f 87)) (Bool.rec none (some acs) (Nat.beq f 85)) (Nat.blt f 86)) (Bool.rec (Bool.rec none (some acv) (Nat.beq f 81)) (Bool.rec none (some acx) (Nat.beq f 80)) (Nat.blt f 81)) (Nat.blt f 85)) (Nat.blt f 88)) (Nat.blt f 95)) (Nat.blt f 124)) (Bool.rec (Bool.rec (Bool.rec (Bool.rec (Bool.rec (Bool.rec (Bool.rec none (some acz) (Nat.beq f 79)) (Bool.rec none (some acB) (Nat.beq f 69)) (Nat.blt f 79)) (Bool.rec none (some acD) (Nat.beq f 68)) (Nat.blt f 69)) (Bool.rec (Bool.rec (Bool.rec none (some acF) (Nat.beq f 67)) (Bool.rec none (some acH) (Nat.beq f 66)) (Nat.blt f 67)) (Bool.rec none (some acJ) (Nat.beq f 65)) (Nat.blt f 66)) (Nat.blt f 68)) (Bool.rec (Bool.rec (Bool.rec (Bool.rec none (some acL) (Nat.beq f 64)) (Bool.rec none (some acN) (Nat.beq f 63)) (Nat.blt f 64)) (Bool.rec none (some acP) (Nat.beq f 62)) (Nat.blt f 63)) (Bool.rec (Bool.rec (Bool.rec none (some acR) (Nat.beq f 61)) (Bool.rec none (some acT) (Nat.beq f 60)) (Nat.blt f 61)) (Bool.rec none (some acV) (Nat.beq f 59)) (Nat.blt f 60)) (Nat.blt f 62)) (Nat.blt f 65)) (Bool.rec (Bool.rec (Bool.rec (Bool.rec (Bool.rec none (some acX) (Nat.beq f 58)) (Bool.rec none (some acZ) (Nat.beq f 57)) (Nat.blt f 58)) (Bool.rec none (some ac1) (Nat.beq f 56)) (Nat.blt f 57)) (Bool.rec (Bool.rec (Bool.rec none (some ac3) (Nat.beq f 55)) (Bool.rec none (some ac5) (Nat.beq f 54)) (Nat.blt f 55)) (Bool.rec none (some ac7) (Nat.beq f 53)) (Nat.blt f 54)) (Nat.blt f 56)) (Bool.rec (Bool.rec (Bool.rec (Bool.rec none (some ac9) (Nat.beq f 52)) (Bool.rec none (some adb) (Nat.beq f 48)) (Nat.blt f 52)) (Bool.rec none (some ade) (Nat.beq f 47)) (Nat.blt f 48)) (Bool.rec (Bool.rec none (some adg) (Nat.beq f 46)) (Bool.rec none (some adi) (Nat.beq f 45)) (Nat.blt f 46)) (Nat.blt f 47)) (Nat.blt f 53)) (Nat.blt f 59)) (Bool.rec (Bool.rec (Bool.rec (Bool.rec (Bool.rec (Bool.rec none (some adk) (Nat.beq f 44)) (Bool.rec none (some adm) (Nat.beq f 43)) (Nat.blt f 44)) (Bool.rec none (some ado) (Nat.beq f 42)) (Nat.blt f 43)) (Bool.rec (Bool.rec (Bool.rec none (some adq) (Nat.beq f 41)) (Bool.rec none (some ads) (Nat.beq f 40)) (Nat.blt f 41)) (Bool.rec none (some adu) (Nat.beq f 38)) (Nat.blt f 40)) (Nat.blt f 42)) (Bool.rec (Bool.rec (Bool.rec (Bool.rec none (some adw) (Nat.beq f 36)) (Bool.rec none (some ady) (Nat.beq f 34)) (Nat.blt f 36)) (Bool.rec none (some adA) (Nat.beq f 33)) (Nat.blt f 34)) (Bool.rec (Bool.rec none (some adC) (Nat.beq f 32)) (Bool.rec none (some adE) (Nat.beq f 30)) (Nat.blt f 32)) (Nat.blt f 33)) (Nat.blt f 38)) (Bool.rec (Bool.rec (Bool.rec (Bool.rec (Bool.rec none (some adG) (Nat.beq f 26)) (Bool.rec none (some adI) (Nat.beq f 25)) (Nat.blt f 26)) (Bool.rec none (some adK) (Nat.beq f 24)) (Nat.blt f 25)) (Bool.rec (Bool.rec (Bool.rec none (some adM) (Nat.beq f 23)) (Bool.rec none (some adO) (Nat.beq f 22)) (Nat.blt f 23)) (Bool.rec none (some adQ) (Nat.beq f 21)) (Nat.blt f 22)) (Nat.blt f 24)) (Bool.rec (Bool.rec (Bool.rec (Bool.rec none (some adS) (Nat.beq f 19)) (Bool.rec none (some adU) (Nat.beq f 16)) (Nat.blt f 19)) (Bool.rec none (some adW) (Nat.beq f 14)) (Nat.blt f 16)) (Bool.rec (Bool.rec none (some adY) (Nat.beq f 13)) (Bool.rec none (some ad0) (Nat.beq f 12)) (Nat.blt f 13)) (Nat.blt f 14)) (Nat.blt f 21)) (Nat.blt f 30)) (Nat.blt f 45)) (Nat.blt f 80))
theorem ax {f n:Nat} {x y:XF} (hy:aw n y) (h:(Bool.rec (motive:=fun _=>Option XF) none (some y) (Nat.beq f n))=some x):aw f x:=by
 cases hb:Nat.beq f n with
 |false=>rw[hb]at h;cases h
 |true=>rw[hb]at h;cases h;rw[Nat.eq_of_beq_eq_true hb];exact hy
theorem az {f n:Nat} {a b:Option XF} {x:XF} (ha:a=some x→aw f x) (hb:b=some x→aw f x) (h:(Bool.rec (motive:=fun _=>Option XF) a b (Nat.blt f n))=some x):aw f x:=by
 cases hc:Nat.blt f n with
 |false=>rw[hc]at h;exact ha h
 |true=>rw[hc]at h;exact hb h
theorem ab6 (f:Nat) (x:XF) (h:JF f=some x):aK Tryz.prog f x=true∧plain (dR x)=true:=(az (az (az (az (az (az (az (ax Ve) (ax Vf)) (ax Vg)) (az (az (ax Vh) (ax Vi)) (ax Vj))) (az (az (az (ax Vk) (ax Vm)) (ax Vo)) (az (az (ax Vp) (ax Vq)) (ax Vr)))) (az (az (az (az (ax Vs) (ax Vt)) (ax Vu)) (az (az (ax Vv) (ax Vx)) (ax Vy))) (az (az (az (ax Vz) (ax VA)) (ax VB)) (az (ax VC) (ax VD))))) (az (az (az (az (az (ax VE) (ax VF)) (ax VH)) (az (az (ax VJ) (ax VK)) (ax VM))) (az (az (az (ax VN) (ax VO)) (ax VP)) (az (ax VQ) (ax ab7)))) (az (az (az (az (ax ab9) (ax acb)) (ax ace)) (az (az (ax acg) (ax aci)) (ax acl))) (az (az (az (ax acn) (ax acp)) (ax acr)) (az (ax acu) (ax acw)))))) (az (az (az (az (az (az (ax acy) (ax acA)) (ax acC)) (az (az (ax acE) (ax acG)) (ax acI))) (az (az (az (ax acK) (ax acM)) (ax acO)) (az (az (ax acQ) (ax acS)) (ax acU)))) (az (az (az (az (ax acW) (ax acY)) (ax ac0)) (az (az (ax ac2) (ax ac4)) (ax ac6))) (az (az (az (ax ac8) (ax ada)) (ax adc)) (az (ax adf) (ax adh))))) (az (az (az (az (az (ax adj) (ax adl)) (ax adn)) (az (az (ax adp) (ax adr)) (ax adt))) (az (az (az (ax adv) (ax adx)) (ax adz)) (az (ax adB) (ax adD)))) (az (az (az (az (ax adF) (ax adH)) (ax adJ)) (az (az (ax adL) (ax adN)) (ax adP))) (az (az (az (ax adR) (ax adT)) (ax adV)) (az (ax adX) (ax adZ))))))) h
theorem pO:Tryz.prog.follows .mixedOrders=true:=by kernel_rfl
end Go.Proofs.Tryz
namespace Go.Proofs.Tryz
open Go Go.RowKit Go.Sy
open Go.Eng hiding aj
set_option maxRecDepth 1000000
set_option linter.unusedVariables false
set_option maxHeartbeats 4000000
attribute [local irreducible] aq
noncomputable abbrev sq (x0:Nat→Value) (x1:Int):AObj:=.blk false 86 21 [[hv (x0 0),hv (x0 1),hv (x0 2),hv (x0 3),hv (x0 4),hv (x0 5),hv (x0 6),hv (x0 7),.sy (.int 1 x1),.int 2 (.ofNat 1),hv (x0 10),hv (x0 11),hv (x0 12),hv (x0 13),hv (x0 14),hv (x0 15),hv (x0 16),hv (x0 17),hv (x0 18),hv (x0 19),hv (x0 20)]]
noncomputable abbrev AJ (x0:List Nat) (x1:Int) (x2:Int):AV:=.agg [.int 1 (.ofNat 2),.int 1 (.ofNat 0),.int 2 (.ofNat 0),.int 3 (.ofNat 0),.int 1 (.ofNat 0),.int 1 (.ofNat 0),.int 1 (.ofNat 0),.int 1 (.ofNat 0),.int 1 (.ofNat 0),.int 1 (.ofNat 0),.int 1 (.ofNat 0),.int 3 (.ofNat 0),.nilS,.int 1 (.ofNat 0),.str x0,.nilS,.sy (.int 1 x1),.sy (.int 2 x2)]
noncomputable abbrev cY (x0:Nat) (x1:Nat):AObj:=.blk false 113 1 [[.fn x0 [.ptr x1 0]]]
noncomputable abbrev eL (x0:Int):AV:=.agg [.sy (.int 1 x0),.int 2 (.ofNat 1)]
noncomputable abbrev o_r (x0:List Nat) (x1:Int):AObj:=.blk false 74 31 [[.int 1 (.ofNat 11),.int 1 (.ofNat 0),.int 1 (.ofNat 0),.int 3 (.ofNat 0),.int 3 (.ofNat 0),.int 3 (.ofNat 0),.int 3 (.ofNat 0),.int 4 (.ofNat 0),.int 4 (.ofNat 0),.int 1 (.ofNat 0),.int 2 (.ofNat 0),.int 3 (.ofNat 0),.int 1 (.ofNat 0),.int 1 (.ofNat 0),.int 1 (.ofNat 0),.int 1 (.ofNat 0),.int 1 (.ofNat 0),.int 1 (.ofNat 0),.int 1 (.ofNat 0),.nilS,.int 1 (.ofNat 0),.str x0,.int 1 (.ofNat 0),.int 3 (.ofNat 0),.nilS,.sy (.int 1 x1),.int 2 (.ofNat 1),.bool false,.nilS,.nilS,.nilS]]
noncomputable abbrev iU (x0:Int):AObj:=.blk false 52 2 [[.sy (.int 1 x0),.int 2 (.ofNat 1)]]
noncomputable abbrev o_A (x0:Nat→Value) (x1:Int) (x2:Int):AObj:=.blk false 86 21 [[hv (x0 0),.sy (.int 3 x1),hv (x0 2),hv (x0 3),hv (x0 4),.ptr 1 0,hv (x0 6),.int 1 (.ofNat 0),.sy (.int 1 x2),.int 2 (.ofNat 1),hv (x0 10),hv (x0 11),hv (x0 12),hv (x0 13),hv (x0 14),hv (x0 15),hv (x0 16),hv (x0 17),hv (x0 18),hv (x0 19),hv (x0 20)]]
noncomputable abbrev o_B (x0:Nat→Value) (x1:Int) (x2:Int):AObj:=.blk false 86 21 [[hv (x0 0),.sy (.int 3 x1),hv (x0 2),hv (x0 3),hv (x0 4),hv (x0 5),hv (x0 6),hv (x0 7),.sy (.int 1 x2),.int 2 (.ofNat 1),hv (x0 10),hv (x0 11),hv (x0 12),hv (x0 13),hv (x0 14),hv (x0 15),hv (x0 16),hv (x0 17),hv (x0 18),hv (x0 19),hv (x0 20)]]
noncomputable abbrev o_C (x0:Nat→Value):AObj:=.blk false 86 21 [[hv (x0 0),hv (x0 1),hv (x0 2),hv (x0 3),hv (x0 4),hv (x0 5),hv (x0 6),.int 1 (.ofNat 0),hv (x0 8),hv (x0 9),hv (x0 10),hv (x0 11),hv (x0 12),hv (x0 13),hv (x0 14),hv (x0 15),hv (x0 16),hv (x0 17),hv (x0 18),hv (x0 19),hv (x0 20)]]
noncomputable abbrev o_D (x0:Nat→Value) (x1:Int):AObj:=.blk false 86 21 [[hv (x0 0),hv (x0 1),hv (x0 2),.ptr 1 0,hv (x0 4),hv (x0 5),.sy (.int 0 x1),hv (x0 7),hv (x0 8),hv (x0 9),hv (x0 10),hv (x0 11),hv (x0 12),hv (x0 13),hv (x0 14),hv (x0 15),hv (x0 16),hv (x0 17),hv (x0 18),hv (x0 19),hv (x0 20)]]
noncomputable abbrev o_E (x0:Nat→Value):AObj:=.blk false 86 21 [[hv (x0 0),hv (x0 1),hv (x0 2),.ptr 1 0,.ptr 2 0,hv (x0 5),hv (x0 6),hv (x0 7),hv (x0 8),hv (x0 9),hv (x0 10),hv (x0 11),hv (x0 12),hv (x0 13),hv (x0 14),hv (x0 15),hv (x0 16),hv (x0 17),hv (x0 18),hv (x0 19),hv (x0 20)]]
noncomputable abbrev o_F (x0:Prop) (x1:Prop) (x2:Prop) (x3:Prop) (x4:Prop) (x5:Prop) (x6:Prop) (x7:Prop):AObj:=.blk false 128 16 [[.sy (.bool x0),.sy (.bool x1),.sy (.bool x2),.sy (.bool x3),.sy (.bool x4),.sy (.bool x5),.sy (.bool x6),.sy (.bool x7),.bool false,.bool false,.bool false,.bool false,.bool false,.bool false,.bool false,.bool false]]
noncomputable abbrev Ub (x0:Nat→Value) (x1:Nat) (x2:Nat) (x3:Nat) (x4:Option Nat):AObj:=.blk false 34 5 [[hv (x0 0),hv (x0 1),.sy (.psub 1 33 x1 x2 x3 x4),hv (x0 3),hv (x0 4)]]
noncomputable abbrev mS (x0:Nat) (x1:Nat):AObj:=.blk false x0 1 [[.ptr x1 0]]
noncomputable abbrev o_N:AObj:=.blk false 34 5 [[.nilS,.nilS,.nilS,.int 0 (.ofNat 0),.int 0 (.ofNat 0)]]
noncomputable abbrev Ua:AObj:=.blk false 5 1 [[.int 1 (.ofNat 0)]]
abbrev KE:=AV→T→Nat→Bool
abbrev IE:=List AV×T×Nat
abbrev IL:=SL×T×Nat
noncomputable def fY {α:Type} (I:α→IE) (sp:α→KE→Bool):cu:=fun us M nx K=>ee fun p:α=>ae (aq ((us,M,nx)=I p)) (sp p K)
theorem Kr {P:Program} (hm:P.follows .mixedOrders=true) {cf:fe} (hcf:gG P cf) {lp:bN} {lf f k:Nat} {xf:XF} {α:Type} {I:α→IE} {sp:α→KE→Bool} (hf:aK P f xf=true) (hkp:dr k (dR xf)=true) (hlp:∀b j x,(b,j,x)∈de (dR xf)→bj P (KS xf) k lp b j x)
  (h:∀p K,sp p K=true→tO k cf lp lf xf (I p).1 (I p).2.1 (I p).2.2 K=true):aA P f k (fY I sp):=
 WV hm hcf hf hkp hlp fun us M nx K hk=>by
  obtain⟨p,h1⟩:=bk hk
  obtain⟨e,h2⟩:=ai h1
  have h3:=h p K h2
  rw[←e]at h3
  exact h3
noncomputable def jO {α:Type} (pre:α→Prop) (out:α→KE→Bool) (p:α) (K:KE):Bool:=ae (aq (pre p)) (out p K)
noncomputable def ae5 (prev:Nat→List AV→T→Option ES) (k:Nat) (es:cu) (g:Nat) (l:List (Nat×Nat)) (f:Nat) (vs:List AV) (M:T):Option ES:=Bool.rec (prev f vs M) (some (.mk k es [])) (oW f g vs l)
def gD (P:Program) (nat:Nat→List AV→T→Option ES):Prop:=∀f vs M k sp hs,nat f vs M=some (.mk k sp hs)→ra P f k sp hs
theorem WX {P:Program} {prev:Nat→List AV→T→Option ES} {k g:Nat} {es:cu} {l:List (Nat×Nat)} (h1:aA P g k es) (h2:gD P prev):gD P (ae5 prev k es g l):=fun f vs M k' sp hs h=>oQ (Bg h1) (h2 f vs M k' sp hs) h
noncomputable def ae4 (prev:Nat→List AV→T→Option ES) (k:Nat) (es:cu) (g:Nat) (l:List (Nat×Nat)) (b:List AV→T→Bool) (f:Nat) (vs:List AV) (M:T):Option ES:=Bool.rec (prev f vs M) (Bool.rec (prev f vs M) (some (.mk k es [])) (b vs M)) (oW f g vs l)
theorem WW {P:Program} {prev:Nat→List AV→T→Option ES} {k g:Nat} {es:cu} {l:List (Nat×Nat)} {b:List AV→T→Bool} (h1:aA P g k es) (h2:gD P prev):gD P (ae4 prev k es g l b):=fun f vs M k' sp hl h=>by
 have h:(Bool.rec (prev f vs M) (Bool.rec (prev f vs M) (some (.mk k es [])) (b vs M)) (oW f g vs l):Option ES)=some (.mk k' sp hl):=h
 cases hb:b vs M with
 |false=>rw[hb]at h;cases hs:oW f g vs l<;>rw[hs]at h<;>exact h2 f vs M k' sp hl h
 |true=>rw[hb]at h;exact oQ (Bg h1) (h2 f vs M k' sp hl) h
noncomputable def Ug (prev:Nat→List AV→T→Option ES) (k:Nat) (hs:List Nat) (es:cu) (g:Nat) (l:List (Nat×Nat)) (f:Nat) (vs:List AV) (M:T):Option ES:=Bool.rec (prev f vs M) (some (.mk k es hs)) (oW f g vs l)
theorem Ov {P:Program} {prev:Nat→List AV→T→Option ES} {k g:Nat} {hs0:List Nat} {es:cu} {l:List (Nat×Nat)} (h1:aA P g k es) (h2:gD P prev) (hh:BS hs0=false:=by rfl):gD P (Ug prev k hs0 es g l):=fun f vs M k' sp hs h=>oQ (Bg h1 hh) (h2 f vs M k' sp hs) h
noncomputable def Uf (prev:Nat→List AV→T→Option ES) (k:Nat) (es:cu) (g:Nat) (l:List (Nat×Nat)) (f:Nat) (vs:List AV) (M:T):Option ES:=Bool.rec (prev f vs M) (some (.mk k es [999])) (oW f g vs l)
theorem Ot {P:Program} {prev:Nat→List AV→T→Option ES} {k g:Nat} {es:cu} {l:List (Nat×Nat)} (h1:dM P g k es) (h2:gD P prev):gD P (Uf prev k es g l):=fun f vs M k' sp hs h=>oQ (ae3 h1) (h2 f vs M k' sp hs) h
noncomputable def ae6:Nat→List AV→T→Option ES:=fun _ _ _=>none
theorem WY {P:Program}:gD P ae6:=fun _ _ _ _ _ _ h=>by cases h
noncomputable def bT:bN:=fun _ _ _ _ _=>false
noncomputable def iP (p:Prop) (x y:Bool):Bool:=aM (aq p) x y
theorem iI {p:Prop} {x y:Bool} (h:p→x=true) (k:¬p→y=true):iP p x y=true:=ifP h k
theorem Gp {a b:Int}:jf 0 a b=(a<b):=rfl
theorem Gn {a b:Int}:jf 1 a b=(a≤b):=rfl
theorem Gm {a b:Int}:jf 2 a b=(b<a):=rfl
theorem Gl {a b:Int}:jf 3 a b=(b≤a):=rfl
theorem Gk {a b:Int}:jf 4 a b=(a=b):=rfl
theorem Gj {a b:Int}:jf 5 a b=(¬a=b):=rfl
theorem oN (n:Nat):Int.ofNat n=(n:Int):=rfl
theorem oL (n:Nat):Int.ofNat (no_index (OfNat.ofNat n))=(OfNat.ofNat n:Int):=rfl
noncomputable abbrev SV (p:Prop) (x y:Bool):Bool:= @Bool.rec (fun _=>Bool) y x (aq p)
theorem wM {p q:Prop} {b:Bool} (h:q) (k:b=true) (e:p=q:=by first|(dsimp only[Gp,Gn,Gm,Gl,Gk,Gj,oL,oN,Int.reduceNegSucc]<;>exact rfl)|exact rfl|fail):SV p b false=true:=by subst e;exact aN h k
theorem wQ {α:Sort _} {f:α→Bool} (h:aq (∃x,f x=true)=true):aq (∃x,f x=true)=true:=h
theorem wE (K:KE) {v:AV} {M:T} {n:Nat} (h:K v M n=true):K v M n=true:=h
theorem wE4 (K:KC) {e:Nat} {v:SL} {M:T} {n:Nat} (h:K e v M n=true):K e v M n=true:=h
theorem wP {p q:Prop} (h:q) (e:p=q:=by first|(dsimp only[Gp,Gn,Gm,Gl,Gk,Gj,oL,oN,Int.reduceNegSucc]<;>exact rfl)|exact rfl|fail):aq p=true:=by subst e;exact prB_true.2 h
theorem wD {a b:Bool} (h:a=true) (k:b=true):(a&&b)=true:=by subst h;exact k
theorem wV {b c:Bool} (h:c=true) (k:b=true): @Bool.rec (fun _=>Bool) false b c=true:=by subst h;exact k
theorem wN {b:Bool} {α:Sort _} {f:α→Bool} (h:∀x,f x=true) (k:b=true):SV (∀x,f x=true) b false=true:=aN h k
theorem wI {p q:Prop} {x y:Bool} (hx:q→x=true) (hy:¬q→y=true) (e:p=q:=by first|(dsimp only[Gp,Gn,Gm,Gl,Gk,Gj,oL,oN,Int.reduceNegSucc]<;>exact rfl)|exact rfl|fail):SV p x y=true:=by subst e;exact ifP hx hy
theorem wJ {p q:Prop} {x:Bool} (h:q→x=true) (e:p=q:=by first|(dsimp only[Gp,Gn,Gm,Gl,Gk,Gj,oL,oN,Int.reduceNegSucc]<;>exact rfl)|exact rfl|fail):SV p x true=true:=by subst e;exact ifP h fun _=>rfl
theorem wA {α:Sort _} {f:α→Bool} (h:∀x,f x=true):aq (∀x,f x=true)=true:=aR h
theorem wC {α:Sort _} {β:Type _} {s:β} {I:α→β} {sp:α→Bool} (q:α) (e:∀t,I q=t→s=t) (k:sp q=true):aq (∃q,ae (aq (s=I q)) (sp q)=true)=true:=aY q (aN (e _ rfl) k)
abbrev Cl {α β κ:Type _} (s:β) (I:α→β) (pre:α→Prop) (out:α→κ→Bool) (K:κ):Prop:=aq (∃p,ae (aq (s=I p)) (ae (aq (pre p)) (out p K))=true)=true
theorem wS {α β κ:Type _} {s:β} {I:α→β} {pre:α→Prop} {out:α→κ→Bool} {K:κ} (w:α) (e:∀t,I w=t→s=t) (g:pre w) (h:out w K=true):Cl s I pre out K:=wC w e (aN g h)
theorem wX {α:Sort _} {P:α→Prop} {k:α→Bool} (q:α) (e:P q) (h:k q=true):aq (∃q,ae (aq (P q)) (k q)=true)=true:=aY q (aN e h)
theorem wY {α:Sort _} {P P2:α→Prop} {k:α→Bool} (q:α) (e:P q) (e2:P2 q) (h:k q=true):aq (∃q,ae (aq (P q)) (ae (aq (P2 q)) (k q))=true)=true:=aY q (aN e (aN e2 h))
theorem wO {R:Type} {po:R→Prop} {kk:R→Bool} (h:∀r,po r→kk r=true):aj (fun r=>iP (po r) (kk r) true)=true:=aR fun r=>iI (h r) fun _=>rfl
theorem sd {p:Prop} (h:p:=by first|(rfl;done)|(omega;done)|(constructor<;>omega;done)|(simp only[gX];omega;done)|(unfold bR;omega;done)|(simp;done)|(assumption;done)|(exact uj _;done)|(exact⟨amj _,_,pT _,rfl⟩;done)|fail):p:=h
noncomputable abbrev CD (nat:Nat→List AV→T→Option ES):fe:=Je JF nat bT 600 40
theorem vA {nat:Nat→List AV→T→Option ES} (h:gD Tryz.prog nat):gG Tryz.prog (CD nat):=CH (lp:=bT) (lf:=600) pO ab6 h 40
structure NN where
 val:Nat→List AV→T→Option ES
 property:gD Tryz.prog val
noncomputable def UT:NN:=⟨ae6,WY⟩
noncomputable def bY (p:NN) {k g:Nat} {es:cu} (h:aA Tryz.prog g k es) (l:List (Nat×Nat)):NN:=⟨ae5 p.1 k es g l,WX h p.2⟩
noncomputable def gj (p:NN) {k g:Nat} {es:cu} (h:aA Tryz.prog g k es) (l:List (Nat×Nat)) (b:List AV→T→Bool):NN:=⟨ae4 p.1 k es g l b,WW h p.2⟩
noncomputable def iV (p:NN) {k g:Nat} {es:cu} (h:aA Tryz.prog g k es) (l:List (Nat×Nat)) (hs:List Nat) (hh:BS hs=false:=by rfl):NN:=⟨Ug p.1 k hs es g l,Ov h p.2 hh⟩
noncomputable def jV (p:NN) {k g:Nat} {es:cu} (h:dM Tryz.prog g k es) (l:List (Nat×Nat)):NN:=⟨Uf p.1 k es g l,Ot h p.2⟩
noncomputable def aO {α:Type} (I:α→IE) (pre:α→Prop) (out:α→KE→Bool):cu:=fun us M nx K=>ee fun p=>ae (aq ((us,M,nx)=I p)) (ae (aq (pre p)) (out p K))
abbrev GJ (x:XC) (N k:Nat) (lp:bN):Prop:=∀b j y,(b,j,y)∈de x→bj Tryz.prog N k lp b j y
theorem nF {nat:NN} {f k:Nat} {xf:XF} {lp:bN} {α:Type} {I:α→IE} {pre:α→Prop} {out:α→KE→Bool} (hf:aK Tryz.prog f xf=true) (hl:GJ (dR xf) (KS xf) k lp) (hv:∀p K,pre p→out p K=true→tO k (CD nat.1) lp 600 xf (I p).1 (I p).2.1 (I p).2.2 K=true) (hkp:dr k (dR xf)=true:=by rfl):aA Tryz.prog f k (aO I pre out):=
 Kr pO (vA nat.2) hf hkp hl fun p K hk=>hv p K (ai hk).1 (ai hk).2
theorem nE {nat:NN} {f k:Nat} {xf:XF} {α:Type} {I:α→IE} {pre:α→Prop} {out:α→KE→Bool} (hf:aK Tryz.prog f xf=true) (hv:∀p K,pre p→out p K=true→tO k (CD nat.1) bT 600 xf (I p).1 (I p).2.1 (I p).2.2 K=true) (hl:de (dR xf)=[]:=by rfl) (hkp:dr k (dR xf)=true:=by rfl):aA Tryz.prog f k (aO I pre out):=
 nF hf (fun b j y h=>by rw[hl]at h;cases h) hv hkp
theorem KR {nat:NN} {f k:Nat} {xf:XF} {lp:bN} {α:Type} {I:α→IE} {pre:α→Prop} {out:α→KE→Bool} (hf:aK Tryz.prog f xf=true) (hl:GJ (dR xf) (KS xf) k lp) (hv:∀p K,pre p→out p K=true→tO k (CD nat.1) lp 600 xf (I p).1.tail (I p).2.1 (I p).2.2 K=true) (hkp:dr k (dR xf)=true:=by rfl):dM Tryz.prog f k (aO I pre out):=
 WU pO (vA nat.2) hf hkp hl fun us M nx K hk=>by
  obtain⟨p,h1⟩:=bk hk
  obtain⟨e,h2⟩:=ai h1
  have h3:=hv p K (ai h2).1 (ai h2).2
  rw[←e]at h3
  exact h3
theorem nQE {nat:NN} {f k:Nat} {xf:XF} {α:Type} {I:α→IE} {pre:α→Prop} {out:α→KE→Bool} (hf:aK Tryz.prog f xf=true) (hv:∀p K,pre p→out p K=true→tO k (CD nat.1) bT 600 xf (I p).1.tail (I p).2.1 (I p).2.2 K=true) (hl:de (dR xf)=[]:=by rfl) (hkp:dr k (dR xf)=true:=by rfl):dM Tryz.prog f k (aO I pre out):=
 KR hf (fun b j y h=>by rw[hl]at h;cases h) hv hkp
noncomputable def cq (prev:bN) (j0:Nat) {α:Type} (I:α→IL) (pre:α→Prop) (out:α→KC→Bool):bN:=fun j S M nx K=>Bool.rec (prev j S M nx K) (ee fun p=>ae (aq ((S,M,nx)=I p)) (ae (aq (pre p)) (out p K))) (Nat.beq j j0)
theorem lL {nat:NN} {N k j:Nat} {lp:bN} {bd:XC} {α:Type} (mu:α→Nat) {I:α→IL} {pre:α→Prop} {out:α→KC→Bool} (hl:GJ bd N k lp) (he:∀S M nx K,lp j S M nx K=ee fun p=>ae (aq ((S,M,nx)=I p)) (ae (aq (pre p)) (out p K)))
  (hv:∀p K,pre p→out p K=true→je (CD nat.1) lp 600 bd (I p).1 (I p).2.1 (I p).2.2 (fun e S M nx=>Nat.casesOn e (ee fun q=>ae (aq ((S,M,nx)=I q∧mu q<mu p)) (ae (aq (pre q)) (out q K))) (fun e2=>K (Nat.succ e2) S M nx))=true) (hkp:dr k bd=true:=by rfl):bj Tryz.prog N k lp true j bd:=
 ajX (lf:=600) pO (vA nat.2) hkp I mu (fun p K=>ae (aq (pre p)) (out p K)) hl (fun S M nx K h=>by obtain⟨p,h⟩:=bk ((he S M nx K).symm.trans h);exact⟨p,(ai h).1,(ai h).2⟩) fun p K h=>hv p K (ai h).1 (ai h).2
theorem lP {nat:NN} {N k j:Nat} {lp:bN} {bd:XC} {α:Type} {I:α→IL} {pre:α→Prop} {out:α→KC→Bool} (hl:GJ bd N k lp) (he:∀S M nx K,lp j S M nx K=ee fun p=>ae (aq ((S,M,nx)=I p)) (ae (aq (pre p)) (out p K)))
  (hv:∀p K,pre p→out p K=true→je (CD nat.1) lp 600 bd (I p).1 (I p).2.1 (I p).2.2 K=true) (hkp:dr k bd=true:=by rfl):bj Tryz.prog N k lp false j bd:=by
 refine ajr (lf:=600) pO (vA nat.2) hkp hl fun S M nx K h=> ?_
 obtain⟨p,h⟩:=bk ((he S M nx K).symm.trans h)
 obtain⟨e,h9⟩:=ai h
 have e1:S=(I p).1:=congrArg Prod.fst e
 have e2:M=(I p).2.1:=congrArg (fun x=>x.2.1) e
 have e3:nx=(I p).2.2:=congrArg (fun x=>x.2.2) e
 subst e1;subst e2;subst e3
 exact hv p K (ai h9).1 (ai h9).2
theorem cy {x:XC} {N k:Nat} {lp:bN} (h:de x=[]:=by rfl):GJ x N k lp:=fun b j y q=>by rw[h]at q;cases q
theorem dB {x:XC} {N k:Nat} {lp:bN} {b:Bool} {j:Nat} {y:XC} (l:bj Tryz.prog N k lp b j y) (h:de x=[(b,j,y)]:=by rfl):GJ x N k lp:=fun b j y q=>by rw[h]at q;simp only[List.mem_cons,List.not_mem_nil,or_false]at q;cases q;exact l
theorem cb {α:Type} {β:Type _} {s:β} {I:α→β} {pre:α→Prop} {o:α→Bool} (w:α) (e:∀t,I w=t→s=t:=by first|(intro t h;(first|dsimp only[Sn,dv,vJ,fQ,Sq,du,vI,gU,Sz,di,vH,jv,Fm,gp]at h|dsimp only[Sn,dv,vJ,fQ,Sq,du,vI,gU,Sz,di,vH,jv]at h|dsimp only at h|skip);subst h;exact rfl)|fail) (g:pre w:=by first|((try dsimp only[oL,oN,Int.reduceNegSucc]);first|done|exact yg|trivial|assumption|omega|(constructor<;>omega))|fail) (h:o w=true):aq (∃p,ae (aq (s=I p)) (ae (aq (pre p)) (o p))=true)=true:=aY w (aN (e _ rfl) (aN g h))
theorem jM {α:Type} {β:Type _} {s:β} {I:α→β} {mu:α→Nat} {n:Nat} {pre:α→Prop} {o:α→Bool} (q:α) (e:∀t,I q=t→s=t:=by first|(intro t h;(first|dsimp only[Sn,dv,vJ,fQ,Sq,du,vI,gU,Sz,di,vH,jv,Fm,gp]at h|dsimp only[Sn,dv,vJ,fQ,Sq,du,vI,gU,Sz,di,vH,jv]at h|dsimp only at h|skip);subst h;exact rfl)|fail) (h:mu q<n:=by first|((try dsimp only[oL,oN,Int.reduceNegSucc]);first|omega|exact ym)|fail) (g:pre q:=by first|((try dsimp only[oL,oN,Int.reduceNegSucc]);first|done|exact yb|trivial|assumption|omega)|fail) (k:o q=true:=by first|exact hK|exact yx|fail):aq (∃q,ae (aq (s=I q∧mu q<n)) (ae (aq (pre q)) (o q))=true)=true:=aY q (aN ⟨e _ rfl,h⟩ (aN g k))
theorem cR {R:Type} {po:R→Prop} {kk:R→Bool} {b:Bool} (hK:aj (fun r=>iP (po r) (kk r) true)=true) (r:R) (e:∀t,kk r=t→b=t:=by first|(intro t h;(first|dsimp only[Sn,dv,vJ,fQ,Sq,du,vI,gU,Sz,di,vH,jv,Fm,gp]at h|dsimp only[Sn,dv,vJ,fQ,Sq,du,vI,gU,Sz,di,vH,jv]at h|dsimp only at h|skip);subst h;exact rfl)|fail) (h:po r:=by first|((try dsimp only[oL,oN,Int.reduceNegSucc,Gp,Gn,Gm,Gl,Gk,Gj]);first|done|exact yp|trivial|assumption|omega)|fail):b=true:=(e _ rfl).trans (dV h (aV hK r))
theorem ug {R:Type} {kk:R→Bool} {b:Bool} (hK:aj kk=true) (r:R) (e:∀t,kk r=t→b=t:=by first|(intro t h;(first|dsimp only[Sn,dv,vJ,fQ,Sq,du,vI,gU,Sz,di,vH,jv,Fm,gp]at h|dsimp only[Sn,dv,vJ,fQ,Sq,du,vI,gU,Sz,di,vH,jv]at h|dsimp only at h|skip);subst h;exact rfl)|fail):b=true:=(e _ rfl).trans (aV hK r)
theorem SU {po:Prop} {kk b:Bool} (hK:iP po kk true=true) (e:b=kk:=by first|exact rfl|fail) (h:po:=by first|((try dsimp only[oL,oN,Int.reduceNegSucc,Gp,Gn,Gm,Gl,Gk,Gj]);first|done|exact yp|trivial|assumption|omega)|fail):b=true:=e.trans (dV h hK)
theorem wz {p:Prop} (h:p:=by
 first
 |((repeat' ((try conv=>lhs;whnf)<;>first
   |(with_reducible first|(have:=nnx;first|(have:=x8;refine wA fun x9=> ?_)|(have:=x7;refine wA fun x8=> ?_)|(have:=x6;refine wA fun x7=> ?_)|(have:=x5;refine wA fun x6=> ?_)|(have:=x4;refine wA fun x5=> ?_)|(have:=x3;refine wA fun x4=> ?_)|(have:=x2;refine wA fun x3=> ?_)|(have:=x1;refine wA fun x2=> ?_)|refine wA fun x1=> ?_)|refine wA fun x=> ?_)
   |((with_reducible refine wJ fun hi=> ?_);(first|(have:=nnh;first|(have:=hi7;have hi8:=hi)|(have:=hi6;have hi7:=hi)|(have:=hi5;have hi6:=hi)|(have:=hi4;have hi5:=hi)|(have:=hi3;have hi4:=hi)|(have:=hi2;have hi3:=hi)|(have:=hi1;have hi2:=hi)|(have hi1:=hi))|skip);(first|exact yj|skip))
   |(with_reducible refine wN (fun x=> ?_) ?_)
   |((with_reducible refine wM ?_ ?_);focus (try(first|exact sd|exact ys)))
   |(with_reducible refine wV ?_ ?_)
   |((with_reducible refine wI (fun hc=> ?_) (fun hc=> ?_))<;>(first|(have:=nnq;first|rw[hi.1]at hc|rw[hi.2.1]at hc|rw[hi]at hc)|skip)<;>(first|(have:=nnl;first|(have hcl:=congrArg List.length hc;simp only[al5]at hcl)|(have hcl:=List.length_pos_iff.2 hc))|skip)<;>(first|(have:=nnc;first|(have:=hc3;have hc4:=hc)|(have:=hc2;have hc3:=hc)|(have:=hc1;have hc2:=hc)|(have hc1:=hc))|skip)<;>(first|exact yw|skip)<;>(try exact yd))
   |((with_reducible refine wQ ?_);first|exact yq|exact jM (.mk ..)|exact jM (.mk (.mk ..) ..)|exact jM (.mk (.mk ..) (.mk ..) ..)|((first|refine cb (.mk ..) (h:= ?_)|refine cb (.mk (.mk ..) ..) (h:= ?_)|refine cb (.mk (.mk ..) (.mk ..) ..) (h:= ?_)|refine cb (.mk _ _ (.mk ..) ..) (h:= ?_)|refine cb (.mk _ (.mk ..) ..) (h:= ?_)|refine cb (.mk (.mk ..) _ _ (.mk ..) ..) (h:= ?_)|refine cb (.mk (.mk ..) (.mk ..) _ _ (.mk ..) ..) (h:= ?_));exact wo))
   |((with_reducible first|refine wE K ?_|refine wE4 K ?_);first|exact ye|exact hK|exact cR hK (.mk ..)|exact cR hK (.mk (.mk ..) ..)|exact cR hK (.mk (.mk ..) (.mk ..) ..)|exact cR hK (.mk [] ..)|exact cR hK (.mk (.mk ..) _ [] ..)|exact cR hK (.mk (.mk ..) [] ..)|exact cR hK0 (.mk ..)|exact cR hK0 (.mk (.mk ..) ..)|exact cR hK0 (.mk (.mk ..) (.mk ..) ..)|exact cR hK0 (.mk [] ..)|exact cR hK0 (.mk (.mk ..) _ [] ..)|exact cR hK0 (.mk (.mk ..) [] ..)|exact cR hK1 (.mk ..)|exact cR hK1 (.mk (.mk ..) ..)|exact cR hK1 (.mk (.mk ..) (.mk ..) ..)|exact cR hK1 (.mk [] ..)|exact cR hK1 (.mk (.mk ..) _ [] ..)|exact cR hK1 (.mk (.mk ..) [] ..)|exact cR hK2 (.mk ..)|exact cR hK2 (.mk (.mk ..) ..)|exact cR hK2 (.mk (.mk ..) (.mk ..) ..)|exact cR hK2 (.mk [] ..)|exact cR hK2 (.mk (.mk ..) _ [] ..)|exact cR hK2 (.mk (.mk ..) [] ..)|exact ug hK (.mk ..)|exact ug hK (.mk (.mk ..) ..)|exact ug hK0 (.mk ..)|exact ug hK0 (.mk (.mk ..) ..)|exact ug hK1 (.mk ..)|exact ug hK1 (.mk (.mk ..) ..)|exact ug hK2 (.mk ..)|exact ug hK2 (.mk (.mk ..) ..)|exact SU hK|exact SU hK0|exact SU hK1|exact SU hK2|exact hK0|exact hK1|exact hK2)
   |exact yd
   |((with_reducible refine wP ?_);first|rfl|exact yz)
   |exact rfl
   |refine wD ?_ ?_));done)
 |fail):p:=h
theorem wo {p:Prop} (h:p:=by
 first
 |((first|((with_reducible first|refine dI (wO fun r hi=> ?_) (dI (wO fun r hi=> ?_) (wO fun r hi=> ?_))|refine dI (wO fun r hi=> ?_) (wO fun r hi=> ?_)|refine dI (iI (fun hi=> ?_) (fun _=>rfl)) (wO fun r hi=> ?_)|refine dI (iI (fun hi=> ?_) (fun _=>rfl)) (iI (fun hi=> ?_) (fun _=>rfl))|refine dI (wO fun r hi=> ?_) (iI (fun hi=> ?_) (fun _=>rfl))|refine wO fun r hi=> ?_)<;>(first|(have:=nnr;revert r;(first|(have:=r6;intro r7)|(have:=r5;intro r6)|(have:=r4;intro r5)|(have:=r3;intro r4)|(have:=r2;intro r3)|(have:=r1;intro r2)|intro r1);try intro hi)|skip)<;>(try dsimp only[oL,oN,Int.reduceNegSucc]at hi)<;>(first|(have:=nnh;first|(have:=hi7;have hi8:=hi)|(have:=hi6;have hi7:=hi)|(have:=hi5;have hi6:=hi)|(have:=hi4;have hi5:=hi)|(have:=hi3;have hi4:=hi)|(have:=hi2;have hi3:=hi)|(have:=hi1;have hi2:=hi)|(have hi1:=hi))|skip)<;>(first|exact yn|skip))|(with_reducible first|(have:=nnx;first|(have:=x8;refine aR fun x9=> ?_)|(have:=x7;refine aR fun x8=> ?_)|(have:=x6;refine aR fun x7=> ?_)|(have:=x5;refine aR fun x6=> ?_)|(have:=x4;refine aR fun x5=> ?_)|(have:=x3;refine aR fun x4=> ?_)|(have:=x2;refine aR fun x3=> ?_)|(have:=x1;refine aR fun x2=> ?_)|refine aR fun x1=> ?_)|refine aR fun r=> ?_)|skip)<;>exact wz)
 |fail):p:=h
def am (x:Int):List PL:=[.sint 1 x,.int 2 (.ofNat 1)]
noncomputable abbrev ce (x0:Int) (x1:Value) (x2:List Int) (x3:Int) (x4:Nat) (x5:Nat) (x6:Int) (x7:Int) (x8:Prop) (x9:Nat):AObj:=.blk false 104 10 [[.int 1 (.ofNat 0),.sy (.int 3 x0),.sy (.imm x1 2 Int x2 am),.sy (.int 1 x3),.int 2 (.ofNat 1),.sy (.prow x4 x5),.sy (.int 0 x6),.sy (.int 0 x7),.sy (.bool x8),.map x9]]
noncomputable abbrev aE (x0:List Int):AObj:=.prow 52 2 Int x0 am
noncomputable abbrev da (x0:Int) (x1:Value) (x2:List Int):AObj:=.blk false 45 3 [[.int 1 (.ofNat 0),.sy (.int 3 x0),.sy (.imm x1 2 Int x2 am)]]
noncomputable abbrev AK (x0:Nat→Value) (x1:Value) (x2:List Int) (x3:Int) (x4:Nat) (x5:Nat) (x6:Nat) (x7:Nat):AObj:=.blk false 86 21 [[.int 1 (.ofNat 0),hv (x0 1),.sy (.imm x1 2 Int x2 am),hv (x0 3),hv (x0 4),hv (x0 5),hv (x0 6),.int 1 (.ofNat 0),.sy (.int 1 x3),.int 2 (.ofNat 1),hv (x0 10),.sy (.prow x4 x5),hv (x0 12),.sy (.prow x6 x7),hv (x0 14),hv (x0 15),hv (x0 16),hv (x0 17),hv (x0 18),hv (x0 19),hv (x0 20)]]
noncomputable abbrev qe (x0:Nat→Value) (x1:Value) (x2:List Int) (x3:Int) (x4:Nat):AObj:=.blk false 161 11 [[hv (x0 0),hv (x0 1),.sy (.imm x1 2 Int x2 am),hv (x0 3),.sy (.int 0 x3),.map x4,hv (x0 6),hv (x0 7),hv (x0 8),hv (x0 9),hv (x0 10)]]
noncomputable abbrev TZ (x0:Int) (x1:Value) (x2:List Int) (x3:Nat→Value):AObj:=.blk false 86 21 [[.int 1 (.ofNat 0),.sy (.int 3 x0),.sy (.imm x1 2 Int x2 am),.ptr 1 0,hv (x3 4),hv (x3 5),hv (x3 6),.int 1 (.ofNat 0),hv (x3 8),hv (x3 9),hv (x3 10),hv (x3 11),hv (x3 12),hv (x3 13),hv (x3 14),hv (x3 15),hv (x3 16),hv (x3 17),hv (x3 18),hv (x3 19),hv (x3 20)]]
noncomputable abbrev lU (x0:Int) (x1:Value) (x2:List Int):AV:=.agg [.int 1 (.ofNat 0),.sy (.int 3 x0),.sy (.imm x1 2 Int x2 am)]
noncomputable abbrev o_t (x0:Int) (x1:Value) (x2:List Int) (x3:Nat→Value) (x4:Int) (x5:Int) (x6:Nat) (x7:Nat) (x8:Nat) (x9:Int):AObj:=.blk false 86 21 [[.int 1 (.ofNat 0),.sy (.int 3 x0),.sy (.imm x1 2 Int x2 am),.ptr 1 0,hv (x3 4),hv (x3 5),.sy (.int 0 x4),.int 1 (.ofNat 0),.sy (.int 1 x5),.int 2 (.ofNat 1),hv (x3 10),.sy (.prow 2 x6),.sy (.prow 3 x7),.sy (.prow 4 x8),hv (x3 14),hv (x3 15),hv (x3 16),.sy (.int 0 x9),hv (x3 18),hv (x3 19),hv (x3 20)]]
noncomputable abbrev o_u (x0:Int) (x1:Value) (x2:List Int) (x3:Nat→Value) (x4:Nat) (x5:Nat) (x6:Nat):AObj:=.blk false 86 21 [[.int 1 (.ofNat 0),.sy (.int 3 x0),.sy (.imm x1 2 Int x2 am),hv (x3 3),hv (x3 4),hv (x3 5),hv (x3 6),.int 1 (.ofNat 0),hv (x3 8),.int 2 (.ofNat 1),hv (x3 10),.sy (.prow 1 x4),.sy (.prow 2 x5),.sy (.prow 3 x6),hv (x3 14),hv (x3 15),hv (x3 16),hv (x3 17),hv (x3 18),hv (x3 19),hv (x3 20)]]
noncomputable abbrev o_v (x0:Int) (x1:Value) (x2:List Int) (x3:Nat→Value) (x4:Int) (x5:Int):AObj:=.blk false 86 21 [[.int 1 (.ofNat 0),.sy (.int 3 x0),.sy (.imm x1 2 Int x2 am),.ptr 1 0,hv (x3 4),hv (x3 5),.sy (.int 0 x4),hv (x3 7),.sy (.int 1 x5),.int 2 (.ofNat 1),hv (x3 10),hv (x3 11),hv (x3 12),hv (x3 13),hv (x3 14),hv (x3 15),hv (x3 16),hv (x3 17),hv (x3 18),hv (x3 19),hv (x3 20)]]
noncomputable abbrev o_w (x0:Int) (x1:Value) (x2:List Int) (x3:Nat) (x4:Nat→Value) (x5:Int) (x6:Nat) (x7:Nat):AObj:=.blk false 86 21 [[.int 1 (.ofNat 0),.sy (.int 3 x0),.sy (.imm x1 2 Int x2 am),.ptr x3 0,hv (x4 4),hv (x4 5),hv (x4 6),hv (x4 7),.sy (.int 1 x5),.int 2 (.ofNat 1),hv (x4 10),hv (x4 11),.sy (.prow x6 x7),hv (x4 13),hv (x4 14),hv (x4 15),hv (x4 16),hv (x4 17),hv (x4 18),hv (x4 19),hv (x4 20)]]
noncomputable abbrev o_x (x0:Int) (x1:Value) (x2:List Int) (x3:Nat) (x4:Nat→Value) (x5:Int) (x6:Int):AObj:=.blk false 86 21 [[.int 1 (.ofNat 0),.sy (.int 3 x0),.sy (.imm x1 2 Int x2 am),.ptr x3 0,hv (x4 4),hv (x4 5),hv (x4 6),.int 1 (.ofNat 0),.sy (.int 1 x5),.int 2 (.ofNat 1),hv (x4 10),hv (x4 11),hv (x4 12),hv (x4 13),hv (x4 14),.sy (.int 3 x6),hv (x4 16),hv (x4 17),hv (x4 18),hv (x4 19),hv (x4 20)]]
noncomputable abbrev o_y (x0:Int) (x1:Value) (x2:List Int) (x3:Nat→Value) (x4:Nat):AObj:=.blk false 86 21 [[.int 1 (.ofNat 0),.sy (.int 3 x0),.sy (.imm x1 2 Int x2 am),hv (x3 3),hv (x3 4),hv (x3 5),hv (x3 6),hv (x3 7),hv (x3 8),hv (x3 9),hv (x3 10),hv (x3 11),hv (x3 12),.sy (.prow 1 x4),hv (x3 14),hv (x3 15),hv (x3 16),hv (x3 17),hv (x3 18),hv (x3 19),hv (x3 20)]]
noncomputable abbrev o_z (x0:Int) (x1:Value) (x2:List Int) (x3:Nat→Value):AObj:=.blk false 86 21 [[.int 1 (.ofNat 0),.sy (.int 3 x0),.sy (.imm x1 2 Int x2 am),.ptr 1 0,hv (x3 4),hv (x3 5),hv (x3 6),hv (x3 7),hv (x3 8),hv (x3 9),hv (x3 10),hv (x3 11),hv (x3 12),hv (x3 13),hv (x3 14),hv (x3 15),hv (x3 16),hv (x3 17),hv (x3 18),hv (x3 19),hv (x3 20)]]
theorem Lx {l:List Int} {x:Int} {i:Nat} (h:l[i]?=some x) (hn:¬x∈l.take i):x∈l∧l.idxOf x=i:=by
 refine⟨al7 h,?_⟩
 have hi:=(List.getElem?_eq_some_iff.1 h).1
 have hx:=(List.getElem?_eq_some_iff.1 h).2
 have e:l=l.take i++x::l.drop (i+1):=by rw[←hx,List.getElem_cons_drop,List.take_append_drop]
 rw[e,List.idxOf_append,if_neg hn,List.idxOf_cons_self,ami,Nat.zero_add]
 exact Nat.min_eq_left (Nat.le_of_lt hi)
theorem Fi {l:List Int} {x y:Int} {i:Nat} (h:l[i]?=some y) (hn:¬x∈l.take i) (hy:¬x=y):¬x∈l.take (i+1):=by
 rw[List.take_add_one,h]
 simp only[Option.toList,amh,List.mem_singleton,not_or]
 exact⟨hn,hy⟩
theorem tk {α:Type} {l:List α} {i:Nat} {x:α} (h:l[i]?=some x):l.take i++[x]=l.take (i+1):=by rw[List.take_add_one,h];rfl
theorem tkd {α:Type} {l:List α} {a i:Nat} {x:α} (h:l[a+i]?=some x):(l.drop a).take i++[x]=(l.drop a).take (i+1):=tk (by rw[List.getElem?_drop];exact h)
theorem Uv {l:List Int} {x:Int} (h:¬x∈l):((-1:Int)<0↔¬x∈l)∧(0≤(-1:Int)↔x∈l)∧(x∈l→(-1:Int)=((l.idxOf x:Nat):Int))∧ -1≤(-1:Int)∧(-1:Int)<(l.length:Int):=
 ⟨⟨fun _=>h,fun _=>by decide⟩,⟨fun q=>absurd q (by decide),fun q=>absurd q h⟩,fun q=>absurd q h,by decide,by omega⟩
theorem Ln {l:List Int} {x z:Int} (h:x∈l∧z=((l.idxOf x:Nat):Int)):(z<0↔¬x∈l)∧(0≤z↔x∈l)∧(x∈l→z=((l.idxOf x:Nat):Int))∧ -1≤z∧z<(l.length:Int):=by
 have:=List.idxOf_lt_length_of_mem h.1
 exact⟨⟨fun q=>by omega,fun q=>absurd h.1 q⟩,⟨fun _=>h.1,fun _=>by omega⟩,fun _=>h.2,by omega,by omega⟩
noncomputable def tP (us:List AV) (a:Nat):Nat:=match bS us a with
 |some (.fn f _)=>f
 |_=>0
noncomputable def xA (us:List AV) (a:Nat) (M:T):Nat:=match bS us a with
 |some (.fn _ (.ptr i _::_))=>match M.get i with
  |some (.blk _ _ _ ((.fn f _::_)::_))=>f
  |_=>0
 |_=>0
def cF (_:Int):List PL:=[.bool true]
theorem pp {l:List Int} {D:Int→Prop} {f:Int→Bool} (hf:∀x,f x=true↔¬D x) {z:Int} (h:0≤z∧z<(l.length:Int)∧(∀x∈l.take z.toNat,¬D x)∧∀x,l[z.toNat]?=some x→D x):
  0≤z∧z≤z+1∧z+1≤(l.length:Int)∧l.length=l.length∧l.take z.toNat=(l.take (z+1).toNat).filter f∧l.drop (z+1).toNat=l.drop (z+1).toNat:=by
 obtain⟨h1,h2,h3,h4⟩:=h
 refine⟨h1,by omega,by omega,rfl,?_,rfl⟩
 have hz:z.toNat<l.length:=by omega
 have hx:l[z.toNat]?=some l[z.toNat]:=List.getElem?_eq_getElem hz
 have hd:=h4 _ hx
 rw[show(z+1).toNat=z.toNat+1 by omega,List.take_add_one,hx,List.filter_append]
 have e1:(l.take z.toNat).filter f=l.take z.toNat:=List.filter_eq_self.2 fun x hx=>(hf x).2 (h3 x hx)
 have e2:f l[z.toNat]=false:=by
  cases q:f l[z.toNat] with
  |false=>rfl
  |true=>exact absurd hd ((hf _).1 q)
 rw[e1]
 simp[e2]
theorem UE {l o:List Int} {j:Nat} {x:Int} (h:o.drop j=l.drop j) (hx:o[j]?=some x):l[j]?=some x∧o.drop (j+1)=l.drop (j+1):=by
 have e:(o.drop j)[0]?=(l.drop j)[0]?:=by rw[h]
 simp only[List.getElem?_drop,Nat.add_zero]at e
 refine⟨by rw[←e];exact hx,?_⟩
 have:=congrArg (List.drop 1) h
 simpa[List.drop_drop,Nat.add_comm] using this
theorem rG {l o:List Int} {i j x:Int} {f:Int→Bool} (g1:0≤i) (g2:i≤j) (g3:j≤(l.length:Int)) (g4:o.length=l.length) (g5:o.take i.toNat=(l.take j.toNat).filter f) (g6:o.drop j.toNat=l.drop j.toNat) (hj:j<(l.length:Int)) (hx:o[j.toNat]?=some x) (hf:f x=true):
  0≤i+1∧i+1≤j+1∧j+1≤(l.length:Int)∧(o.set i.toNat x).length=l.length∧(o.set i.toNat x).take (i+1).toNat=(l.take (j+1).toNat).filter f∧(o.set i.toNat x).drop (j+1).toNat=l.drop (j+1).toNat:=by
 obtain⟨h1,h2⟩:=UE g6 hx
 refine⟨by omega,by omega,by omega,by simp[g4],?_,?_⟩
 ·rw[show(j+1).toNat=j.toNat+1 by omega,show(i+1).toNat=i.toNat+1 by omega,List.take_add_one,List.take_add_one,h1,List.filter_append,←g5]
  rw[List.take_set_of_le (amj _),List.getElem?_set_self (by omega)]
  simp[hf]
 ·rw[show(j+1).toNat=j.toNat+1 by omega,List.drop_set_of_lt (by omega),h2]
theorem rH {l o:List Int} {i j x:Int} {f:Int→Bool} (g1:0≤i) (g2:i≤j) (g3:j≤(l.length:Int)) (g4:o.length=l.length) (g5:o.take i.toNat=(l.take j.toNat).filter f) (g6:o.drop j.toNat=l.drop j.toNat) (hj:j<(l.length:Int)) (hx:o[j.toNat]?=some x) (hf:f x=false):
  0≤i∧i≤j+1∧j+1≤(l.length:Int)∧o.length=l.length∧o.take i.toNat=(l.take (j+1).toNat).filter f∧o.drop (j+1).toNat=l.drop (j+1).toNat:=by
 obtain⟨h1,h2⟩:=UE g6 hx
 refine⟨g1,by omega,by omega,g4,?_,by rw[show(j+1).toNat=j.toNat+1 by omega,h2]⟩
 rw[show(j+1).toNat=j.toNat+1 by omega,List.take_add_one,h1,List.filter_append,←g5]
 simp[hf]
theorem vw {l:List Int} {D:Int→Prop} {f:Int→Bool} (hf:∀x,f x=true↔¬D x) (h:∀x∈l,¬D x):l=l.filter f∧l.length≤l.length:=⟨(List.filter_eq_self.2 fun x hx=>(hf x).2 (h x hx)).symm,amj _⟩
theorem vv {l o:List Int} {i:Int} {f:Int→Bool} (h:0≤i∧i≤(l.length:Int)∧o.length=l.length∧o.take i.toNat=l.filter f):(o.take i.toNat).take (i.toNat - 0)=l.filter f∧((o.take i.toNat).take (i.toNat - 0)).length≤l.length:=by
 have e:(o.take i.toNat).take (i.toNat - 0)=l.filter f:=by rw[List.take_take,Nat.sub_zero,Nat.min_self];exact h.2.2.2
 exact⟨e,by rw[e];exact List.length_filter_le _ _⟩
def gZ (ph:Int) (m gt:List Int):List Int:=if ph=2 then [] else m.filter (fun x=>decide (¬x∈gt))
noncomputable def bd_l_ixi':NV (df [] [] [] 0x4bdf57143dddd881f055f380f2eec29359cbfaafb87aa5609190e96c45b6bdb942f18bf72):=⟨_,by conv=>rhs;reduce⟩
noncomputable abbrev CX:XC:=bd_l_ixi'.1
noncomputable def ft_ixi':NV (fun b0=>aB [] [] [b0] 0x8b961043e042ef2826ed053462b7ad1c4517ff72dbf5b4c9f6):=⟨_,by conv=>rhs;reduce⟩
noncomputable abbrev agu:XF:=ft_ixi'.1 CX
theorem LU:aK Tryz.prog 59 agu=true:=by kernel_rfl
structure GU where
 h:Value
 l:List Int
 x:Int
 i:Int
structure RI where
 z:Int
noncomputable def afD:bN:=cq bT 0 (fun p:GU=>((.cons 8 (.sy (.int 0 p.i)) (.cons 7 (.sy (.int 0 (p.l.length:Int))) (.cons 3 (.ptr 0 0) (.cons 0 (.sy (.imm p.h 2 Int p.l am)) .nil)))),(.node .leaf (some (iU p.x)) .leaf),1)) (fun p=>p.l.length≤1000000∧0≤p.i∧p.i≤(p.l.length:Int)∧¬p.x∈p.l.take p.i.toNat) (fun p K=>ae (iP (¬p.x∈p.l) (K 2 .nil .leaf 0) true) (aj fun r:RI=>iP (p.x∈p.l∧r.z=((p.l.idxOf p.x:Nat):Int)) (K 1 (.cons 4 (.sy (.int 0 r.z)) .nil) .leaf 0) true))
theorem PI:bj Tryz.prog 19 0 afD true 0 CX:=lL (nat:=UT) (fun p:GU=>((p.l.length:Int) - p.i).toNat) cy (fun _ _ _ _=>rfl) fun p K hpre hK=>by
 dsimp only at hpre hK ⊢
 obtain⟨hK0,hKr0⟩:=ac hK
 have hK1:=hKr0
 obtain⟨g0,g1,g2,g3⟩:=hpre
 have yp {g:Prop} (h:g:=by first|(rw[List.take_of_length_le (by omega)]at g3;exact g3)|(rw[←hc]at hi;have h:=Lx hi g3;exact⟨h.1,by omega⟩)|fail):g:=h
 have yb {g:Prop} (h:g:=by first|(refine⟨g0,by omega,by omega,?_⟩;rw[show(p.i+1).toNat=p.i.toNat+1 by omega];exact Fi hi g3 hc)|fail):g:=h
 exact wz
structure akP where
 h:Value
 l:List Int
 x:Int
structure aks where
 z:Int
theorem afb:aA Tryz.prog 59 0 (aO (fun p:akP=>([.sy (.imm p.h 2 Int p.l am),eL p.x],.leaf,0)) (fun p=>p.l.length≤1000000) (fun p K=>aj fun r:aks=>iP ((r.z<0↔¬p.x∈p.l)∧(0≤r.z↔p.x∈p.l)∧(p.x∈p.l→r.z=((p.l.idxOf p.x:Nat):Int))∧ -1≤r.z∧r.z<(p.l.length:Int)) (K (.sy (.int 0 r.z)) .leaf 0) true)):=nF (nat:=UT) LU (dB PI) fun p K hpre hK=>by
 dsimp only at hpre hK ⊢
 have h1:=hpre
 have yg {g:Prop} (h:g:=by first|(exact⟨h1,by omega,by omega,by simp⟩)|fail):g:=h
 have yp {g:Prop} (h:g:=by first|(first|exact Uv (by assumption)|exact Ln (by assumption))|fail):g:=h
 exact wz
noncomputable def wG:NN:=bY UT afb [(0,23),(1,15)]
noncomputable def bd_l_ixp':NV (df [] [] [] 0x18f63722186ae0ab984b92ff88742e1a49f83cb1719c820384d1b7d6ff25c48ca3e127bb1):=⟨_,by conv=>rhs;reduce⟩
noncomputable abbrev CW:XC:=bd_l_ixp'.1
noncomputable def ft_ixp':NV (fun b0=>aB [] [] [b0] 0x1441e555e555c2584400a64a79d53346db291c28eb97ef78af):=⟨_,by conv=>rhs;reduce⟩
noncomputable abbrev agt:XF:=ft_ixp'.1 CW
theorem LR:aK Tryz.prog 59 agt=true:=by kernel_rfl
structure GT where
 l:List Int
 x:Int
 i:Int
structure RH where
 z:Int
noncomputable def afC:bN:=cq bT 0 (fun p:GT=>((.cons 8 (.sy (.int 0 p.i)) (.cons 7 (.sy (.int 0 (p.l.length:Int))) (.cons 3 (.ptr 1 0) (.cons 0 (.sy (.prow 0 p.l.length)) .nil)))),(.node (.node .leaf (some (iU p.x)) .leaf) (some (aE p.l)) .leaf),2)) (fun p=>p.l.length≤1000000∧0≤p.i∧p.i≤(p.l.length:Int)∧¬p.x∈p.l.take p.i.toNat) (fun p K=>ae (iP (¬p.x∈p.l) (K 2 .nil (.node .leaf (some (aE p.l)) .leaf) 1) true) (aj fun r:RH=>iP (p.x∈p.l∧r.z=((p.l.idxOf p.x:Nat):Int)) (K 1 (.cons 4 (.sy (.int 0 r.z)) .nil) (.node .leaf (some (aE p.l)) .leaf) 1) true))
theorem PH:bj Tryz.prog 19 1 afC true 0 CW:=lL (nat:=wG) (fun p:GT=>((p.l.length:Int) - p.i).toNat) cy (fun _ _ _ _=>rfl) fun p K hpre hK=>by
 dsimp only at hpre hK ⊢
 obtain⟨hK0,hKr0⟩:=ac hK
 have hK1:=hKr0
 obtain⟨g0,g1,g2,g3⟩:=hpre
 have yp {g:Prop} (h:g:=by first|(rw[List.take_of_length_le (by omega)]at g3;exact g3)|(rw[←hc]at hi;have h:=Lx hi g3;exact⟨h.1,by omega⟩)|fail):g:=h
 have yb {g:Prop} (h:g:=by first|(refine⟨g0,by omega,by omega,?_⟩;rw[show(p.i+1).toNat=p.i.toNat+1 by omega];exact Fi hi g3 hc)|fail):g:=h
 exact wz
structure akO where
 l:List Int
 x:Int
structure akr where
 z:Int
theorem afa:aA Tryz.prog 59 1 (aO (fun p:akO=>([.sy (.prow 0 p.l.length),eL p.x],(.node .leaf (some (aE p.l)) .leaf),1)) (fun p=>p.l.length≤1000000) (fun p K=>aj fun r:akr=>iP ((r.z<0↔¬p.x∈p.l)∧(0≤r.z↔p.x∈p.l)∧(p.x∈p.l→r.z=((p.l.idxOf p.x:Nat):Int))∧ -1≤r.z∧r.z<(p.l.length:Int)) (K (.sy (.int 0 r.z)) (.node .leaf (some (aE p.l)) .leaf) 1) true)):=nF (nat:=wG) LR (dB PH) fun p K hpre hK=>by
 dsimp only at hpre hK ⊢
 have h1:=hpre
 have yg {g:Prop} (h:g:=by first|(exact⟨h1,by omega,by omega,by simp⟩)|fail):g:=h
 have yp {g:Prop} (h:g:=by first|(first|exact Uv (by assumption)|exact Ln (by assumption))|fail):g:=h
 exact wz
noncomputable def Fp:NN:=bY wG afa [(0,25),(1,15)]
noncomputable def ft_cli':NV (fun e0=>aB [e0] [] [] 0x3c8c1c81a672234ecf23f3e4753edc90653aea7ac64dc9b363):=⟨_,by conv=>rhs;reduce⟩
noncomputable abbrev agz:XF:=ft_cli'.1 (eB 52 2 am)
theorem yH:aK Tryz.prog 48 agz=true:=by kernel_rfl
structure ak1 where
 h:Value
 l:List Int
structure akC where
 o:List Int
theorem afh:aA Tryz.prog 48 0 (aO (fun p:ak1=>([.sy (.imm p.h 2 Int p.l am)],.leaf,0)) (fun p=>p.l.length≤1000000) (fun p K=>aj fun r:akC=>iP (r.o=p.l∧r.o.length=p.l.length) (K (.sy (.prow 0 r.o.length)) (.node .leaf (some (aE r.o)) .leaf) 1) true)):=nE (nat:=Fp) yH fun p K hpre hK=>by
 dsimp only at hpre hK ⊢
 have h1:=hpre
 have nnc:=trivial
 have nnl:=trivial
 have yp {g:Prop} (h:g:=by first|(first|exact⟨rfl,rfl⟩|(have e:p.l=[]:=(by first|assumption|exact hi hc|(apply amo;exact hi hc));rw[e];exact⟨rfl,rfl⟩))|(first|exact⟨rfl,rfl⟩|(have e:p.l=[]:=(by first|assumption|exact hi hc1|(apply amo;exact hi hc1));rw[e];exact⟨rfl,rfl⟩))|fail):g:=h
 exact wz
noncomputable def Ft:NN:=bY Fp afh [(0,23)]
structure ak0 where
 l:List Int
structure akB where
 o:List Int
theorem afg:aA Tryz.prog 48 1 (aO (fun p:ak0=>([.sy (.prow 0 p.l.length)],(.node .leaf (some (aE p.l)) .leaf),1)) (fun p=>p.l.length≤1000000) (fun p K=>aj fun r:akB=>iP (r.o=p.l∧r.o.length=p.l.length) (K (.sy (.prow 1 r.o.length)) (.node (.node .leaf (some (aE r.o)) .leaf) (some (aE p.l)) .leaf) 2) true)):=nE (nat:=Ft) yH fun p K hpre hK=>by
 dsimp only at hpre hK ⊢
 have h1:=hpre
 have nnc:=trivial
 have nnl:=trivial
 have yp {g:Prop} (h:g:=by first|(first|exact⟨rfl,rfl⟩|(have e:p.l=[]:=(by first|assumption|exact hi hc|(apply amo;exact hi hc));rw[e];exact⟨rfl,rfl⟩))|(first|exact⟨rfl,rfl⟩|(have e:p.l=[]:=(by first|assumption|exact hi hc1|(apply amo;exact hi hc1));rw[e];exact⟨rfl,rfl⟩))|fail):g:=h
 exact wz
noncomputable def wK:NN:=bY Ft afg [(0,25)]
noncomputable def bd_l_xfin':NV (df [] [] [] 0xadf96ecc3bb7cd5e56cd5883bceed71498fe936c49d7586f5841579fbcc1b5dd8a9c791320fb5703):=⟨_,by conv=>rhs;reduce⟩
noncomputable abbrev qP:XC:=bd_l_xfin'.1
noncomputable def ft_xfin':NV (fun b0=>aB [] [] [b0] 0x4d8279425a6cabc65df06a9081ebd3c081013f426be8):=⟨_,by conv=>rhs;reduce⟩
noncomputable abbrev YV:XF:=ft_xfin'.1 qP
theorem Il:aK Tryz.prog 112 YV=true:=by kernel_rfl
structure Du where
 l:List Int
 N:Int
 mh:Value
 m:List Int
 i:Int
structure MZ where
 z:Int
noncomputable def Yj:bN:=cq bT 0 (fun p:Du=>((.cons 8 (.sy (.int 0 p.i)) (.cons 7 (.sy (.int 0 (p.l.length:Int))) (.cons 1 (.fn 81 [.ptr 1 0]) (.cons 0 (.sy (.prow 0 p.l.length)) .nil)))),(.node (.node .leaf (some (cY 62 2)) .leaf) (some (aE p.l)) (.node .leaf (some (da p.N p.mh p.m)) .leaf)),3)) (fun p=>p.l.length≤1000000∧p.m.length≤1000000∧0≤p.i∧p.i≤(p.l.length:Int)∧(∀x∈p.l.take p.i.toNat,¬(¬x∈p.m))) (fun p K=>ae (iP (∀x∈p.l,¬(¬x∈p.m)) (K 2 .nil (.node (.node .leaf (some (cY 62 2)) .leaf) (some (aE p.l)) (.node .leaf (some (da p.N p.mh p.m)) .leaf)) 3) true) (aj fun r:MZ=>iP (0≤r.z∧r.z<(p.l.length:Int)∧(∀x∈p.l.take r.z.toNat,¬(¬x∈p.m))∧∀x,p.l[r.z.toNat]?=some x→¬x∈p.m) (K 1 (.cons 4 (.sy (.int 0 r.z)) .nil) (.node (.node .leaf (some (cY 62 2)) .leaf) (some (aE p.l)) (.node .leaf (some (da p.N p.mh p.m)) .leaf)) 3) true))
theorem KY:bj Tryz.prog 19 3 Yj true 0 qP:=lL (nat:=wK) (fun p:Du=>((p.l.length:Int) - p.i).toNat) cy (fun _ _ _ _=>rfl) fun p K hpre hK=>by
 dsimp only at hpre hK ⊢
 obtain⟨hK0,hKr0⟩:=ac hK
 have hK1:=hKr0
 obtain⟨g0,g00,g1,g2,g3⟩:=hpre
 have nnx:=trivial
 have nnh:=trivial
 have nnq:=trivial
 have yp {g:Prop} (h:g:=by first|(rw[List.take_of_length_le (by omega)]at g3;exact g3)|(have hD:¬x1∈p.m:=(by first|assumption|(simp_all;done)|(intro hq;simp_all;done)|(intro hq;exact(by assumption:∀y:Int,y∈p.gt→¬x1=y) _ hq rfl));exact⟨g1,by omega,g3,fun x hx=>by rw[hi1]at hx;injection hx with hx;subst hx;exact hD⟩)|fail):g:=h
 have yb {g:Prop} (h:g:=by first|(refine⟨g0,g00,by omega,by omega,?_⟩;rw[show(p.i+1).toNat=p.i.toNat+1 by omega,List.take_add_one,hi1];have hD:¬(¬x1∈p.m):=(by first|assumption|(simp_all;done)|(intro hq;simp_all;done)|(intro hq;exact(by assumption:∀y:Int,y∈p.gt→¬x1=y) _ hq rfl));intro x hx;rcases amh.1 hx with hx|hx;exact g3 x hx;simp only[Option.toList,List.mem_singleton]at hx;subst hx;exact hD)|fail):g:=h
 exact wz
structure aiu where
 l:List Int
 N:Int
 mh:Value
 m:List Int
structure ahD where
 z:Int
theorem WZ:aA Tryz.prog 112 3 (aO (fun p:aiu=>([.sy (.prow 0 p.l.length),.fn 81 [.ptr 1 0]],(.node (.node .leaf (some (cY 62 2)) .leaf) (some (aE p.l)) (.node .leaf (some (da p.N p.mh p.m)) .leaf)),3)) (fun p=>p.l.length≤1000000∧p.m.length≤1000000) (fun p K=>aj fun r:ahD=>iP (-1≤r.z∧(r.z= -1→∀x∈p.l,¬(¬x∈p.m))∧(¬r.z= -1→0≤r.z∧r.z<(p.l.length:Int)∧(∀x∈p.l.take r.z.toNat,¬(¬x∈p.m))∧∀x,p.l[r.z.toNat]?=some x→¬x∈p.m)) (K (.sy (.int 0 r.z)) (.node (.node .leaf (some (cY 62 2)) .leaf) (some (aE p.l)) (.node .leaf (some (da p.N p.mh p.m)) .leaf)) 3) true)):=nF (nat:=wK) Il (dB KY) fun p K hpre hK=>by
 dsimp only at hpre hK ⊢
 obtain⟨h1,h2⟩:=hpre
 have yg {g:Prop} (h:g:=by first|(exact⟨h1,h2,by omega,by omega,by simp⟩)|fail):g:=h
 have yp {g:Prop} (h:g:=by first|(first|exact⟨by decide,fun _=>by assumption,fun h=>absurd rfl h⟩|exact⟨by omega,fun h=>by omega,fun _=>by assumption⟩)|fail):g:=h
 exact wz
noncomputable def tu:NN:=gj wK WZ [(0,25),(1,13)] (fun us M=>Nat.beq (xA us 1 M) 62)
noncomputable def bd_l_dfin':NV (df [] [] [] 0x564243bd2a7c04aa7deb41abadcc46ec9f48bcbe64a3f407ca4b94850ddad6a115843877cf0c46464da4828c60ab1daae017abf131dfdc69936e76e35):=⟨_,by conv=>rhs;reduce⟩
noncomputable abbrev qS:XC:=bd_l_dfin'.1
noncomputable def ft_dfin':NV (fun b0=>aB [] [] [b0] 0xdf5bd5ee67fa7d041252686d4a2ec39d8c8101be40dace6af9da17e22d75846704c14f6d39c1598dd1c3f02f0310a6bec62cb785ce):=⟨_,by conv=>rhs;reduce⟩
noncomputable abbrev Zs:XF:=ft_dfin'.1 qS
theorem II:aK Tryz.prog 80 Zs=true:=by kernel_rfl
structure DB where
 l:List Int
 N:Int
 mh:Value
 m:List Int
 o:List Int
 i:Int
 j:Int
structure RL where
 o:List Int
 i:Int
noncomputable def Yl:bN:=cq bT 0 (fun p:DB=>((.cons 6 (.sy (.int 0 p.j)) (.cons 5 (.sy (.int 0 p.i)) (.cons 1 (.fn 81 [.ptr 1 0]) (.cons 0 (.sy (.prow 0 p.l.length)) .nil)))),(.node (.node .leaf (some (cY 62 2)) .leaf) (some (aE p.o)) (.node .leaf (some (da p.N p.mh p.m)) .leaf)),3)) (fun p=>p.l.length≤1000000∧p.m.length≤1000000∧0≤p.i∧p.i≤p.j∧p.j≤(p.l.length:Int)∧p.o.length=p.l.length∧p.o.take p.i.toNat=(p.l.take p.j.toNat).filter (fun x=>decide (x∈p.m))∧p.o.drop p.j.toNat=p.l.drop p.j.toNat) (fun p K=>aj fun r:RL=>iP (0≤r.i∧r.i≤(p.l.length:Int)∧r.o.length=p.l.length∧r.o.take r.i.toNat=p.l.filter (fun x=>decide (x∈p.m))) (K 2 (.cons 5 (.sy (.int 0 r.i)) (.cons 0 (.sy (.prow 0 p.l.length)) .nil)) (.node (.node .leaf (some (cY 62 2)) .leaf) (some (aE r.o)) (.node .leaf (some (da p.N p.mh p.m)) .leaf)) 3) true)
theorem Lg:bj Tryz.prog 42 3 Yl true 0 qS:=lL (nat:=tu) (fun p:DB=>((p.l.length:Int) - p.j).toNat) cy (fun _ _ _ _=>rfl) fun p K hpre hK=>by
 dsimp only at hpre hK ⊢
 obtain⟨g0,g00,g1,g2,g3,g4,g5,g6⟩:=hpre
 have nnx:=trivial
 have nnh:=trivial
 have nnq:=trivial
 have yp {g:Prop} (h:g:=by first|(rw[List.take_of_length_le (show p.l.length≤p.j.toNat by omega)]at g5;exact⟨g1,by omega,g4,g5⟩)|fail):g:=h
 have yb {g:Prop} (h:g:=by first|(first|exact⟨g0,g00,rG g1 g2 g3 g4 g5 g6 (by omega) (by assumption) (by have hD:¬(¬x1∈p.m):=(by first|assumption|(simp_all;done)|(intro hq;simp_all;done)|(intro hq;exact(by assumption:∀y:Int,y∈p.gt→¬x1=y) _ hq rfl));simpa using hD)⟩|exact⟨g0,g00,rH g1 g2 g3 g4 g5 g6 (by omega) hi1 (by have hD:¬x1∈p.m:=(by first|assumption|(simp_all;done)|(intro hq;simp_all;done)|(intro hq;exact(by assumption:∀y:Int,y∈p.gt→¬x1=y) _ hq rfl));simpa using hD)⟩)|fail):g:=h
 have yq {g:Prop} (h:g:=by first|(refine wX x1 (by first|exact sd|exact ys) ?_;exact wz)|(exact jM (.mk p.l ..))|fail):g:=h
 exact wz
structure aja where
 l:List Int
 N:Int
 mh:Value
 m:List Int
structure aik where
 o:List Int
theorem XR:aA Tryz.prog 80 3 (aO (fun p:aja=>([.sy (.prow 0 p.l.length),.fn 81 [.ptr 1 0]],(.node (.node .leaf (some (cY 62 2)) .leaf) (some (aE p.l)) (.node .leaf (some (da p.N p.mh p.m)) .leaf)),3)) (fun p=>p.l.length≤1000000∧p.m.length≤1000000) (fun p K=>aj fun r:aik=>iP (r.o=p.l.filter (fun x=>decide (x∈p.m))∧r.o.length≤p.l.length) (K (.sy (.prow 0 r.o.length)) (.node (.node .leaf (some (cY 62 2)) .leaf) (some (aE r.o)) (.node .leaf (some (da p.N p.mh p.m)) .leaf)) 3) true)):=nF (nat:=tu) II (dB Lg) fun p K hpre hK=>by
 dsimp only at hpre hK ⊢
 obtain⟨h1,h2⟩:=hpre
 have ys {g:Prop} (h:g:=by first|(first|omega|(simp;done)|(simp;omega)|(simp only[ami];omega);done)|(exact⟨rfl,rfl,by first|omega|(simp only[ami];omega)⟩;done)|fail):g:=h
 have yg {g:Prop} (h:g:=by first|(first|omega|assumption|exact⟨by omega,by omega⟩)|(have hz:=(hi.2.2 (by assumption));exact⟨h1,h2,pp (fun x=>by simp) hz⟩)|fail):g:=h
 have yp {g:Prop} (h:g:=by first|(first|exact vw (fun x=>by simp) (hi.2.1 (by assumption))|exact vv (by assumption))|fail):g:=h
 have yq {g:Prop} (h:g:=by first|(refine cb (.mk p.l ..) (h:= ?_);exact wo)|fail):g:=h
 exact wz
noncomputable def tA:NN:=gj tu XR [(0,25),(1,13)] (fun us M=>Nat.beq (xA us 1 M) 62)
noncomputable def bd_l_xfout':NV (df [] [] [] 0x622627d89e78d282ef6f2e750a1905abfdf5083043d088dbcc79876611cdef718d7d816fe5a4cbf7):=⟨_,by conv=>rhs;reduce⟩
noncomputable abbrev pv:XC:=bd_l_xfout'.1
noncomputable def ft_xfout':NV (fun b0=>aB [] [] [b0] 0x2b99643552dd209fafada74adac221142507f150255d):=⟨_,by conv=>rhs;reduce⟩
noncomputable abbrev PZ:XF:=ft_xfout'.1 pv
theorem DJ:aK Tryz.prog 112 PZ=true:=by kernel_rfl
structure yY where
 l:List Int
 N:Int
 mh:Value
 m:List Int
 i:Int
structure Jv where
 z:Int
noncomputable def Pp:bN:=cq bT 0 (fun p:yY=>((.cons 8 (.sy (.int 0 p.i)) (.cons 7 (.sy (.int 0 (p.l.length:Int))) (.cons 1 (.fn 81 [.ptr 1 0]) (.cons 0 (.sy (.prow 0 p.l.length)) .nil)))),(.node (.node (.node .leaf (some (da p.N p.mh p.m)) .leaf) (some (cY 64 2)) .leaf) (some (aE p.l)) (.node .leaf (some (cY 62 3)) .leaf)),4)) (fun p=>p.l.length≤1000000∧p.m.length≤1000000∧0≤p.i∧p.i≤(p.l.length:Int)∧(∀x∈p.l.take p.i.toNat,¬(x∈p.m))) (fun p K=>ae (iP (∀x∈p.l,¬(x∈p.m)) (K 2 .nil (.node (.node (.node .leaf (some (da p.N p.mh p.m)) .leaf) (some (cY 64 2)) .leaf) (some (aE p.l)) (.node .leaf (some (cY 62 3)) .leaf)) 4) true) (aj fun r:Jv=>iP (0≤r.z∧r.z<(p.l.length:Int)∧(∀x∈p.l.take r.z.toNat,¬(x∈p.m))∧∀x,p.l[r.z.toNat]?=some x→x∈p.m) (K 1 (.cons 4 (.sy (.int 0 r.z)) .nil) (.node (.node (.node .leaf (some (da p.N p.mh p.m)) .leaf) (some (cY 64 2)) .leaf) (some (aE p.l)) (.node .leaf (some (cY 62 3)) .leaf)) 4) true))
theorem HX:bj Tryz.prog 19 4 Pp true 0 pv:=lL (nat:=tA) (fun p:yY=>((p.l.length:Int) - p.i).toNat) cy (fun _ _ _ _=>rfl) fun p K hpre hK=>by
 dsimp only at hpre hK ⊢
 obtain⟨hK0,hKr0⟩:=ac hK
 have hK1:=hKr0
 obtain⟨g0,g00,g1,g2,g3⟩:=hpre
 have nnx:=trivial
 have nnh:=trivial
 have nnq:=trivial
 have yp {g:Prop} (h:g:=by first|(rw[List.take_of_length_le (by omega)]at g3;exact g3)|(have hD:x1∈p.m:=(by first|assumption|(simp_all;done)|(intro hq;simp_all;done)|(intro hq;exact(by assumption:∀y:Int,y∈p.gt→¬x1=y) _ hq rfl));exact⟨g1,by omega,g3,fun x hx=>by rw[hi1]at hx;injection hx with hx;subst hx;exact hD⟩)|fail):g:=h
 have yb {g:Prop} (h:g:=by first|(refine⟨g0,g00,by omega,by omega,?_⟩;rw[show(p.i+1).toNat=p.i.toNat+1 by omega,List.take_add_one,hi1];have hD:¬(x1∈p.m):=(by first|assumption|(simp_all;done)|(intro hq;simp_all;done)|(intro hq;exact(by assumption:∀y:Int,y∈p.gt→¬x1=y) _ hq rfl));intro x hx;rcases amh.1 hx with hx|hx;exact g3 x hx;simp only[Option.toList,List.mem_singleton]at hx;subst hx;exact hD)|fail):g:=h
 exact wz
structure abl where
 l:List Int
 N:Int
 mh:Value
 m:List Int
structure aaz where
 z:Int
theorem Ow:aA Tryz.prog 112 4 (aO (fun p:abl=>([.sy (.prow 0 p.l.length),.fn 81 [.ptr 1 0]],(.node (.node (.node .leaf (some (da p.N p.mh p.m)) .leaf) (some (cY 64 2)) .leaf) (some (aE p.l)) (.node .leaf (some (cY 62 3)) .leaf)),4)) (fun p=>p.l.length≤1000000∧p.m.length≤1000000) (fun p K=>aj fun r:aaz=>iP (-1≤r.z∧(r.z= -1→∀x∈p.l,¬(x∈p.m))∧(¬r.z= -1→0≤r.z∧r.z<(p.l.length:Int)∧(∀x∈p.l.take r.z.toNat,¬(x∈p.m))∧∀x,p.l[r.z.toNat]?=some x→x∈p.m)) (K (.sy (.int 0 r.z)) (.node (.node (.node .leaf (some (da p.N p.mh p.m)) .leaf) (some (cY 64 2)) .leaf) (some (aE p.l)) (.node .leaf (some (cY 62 3)) .leaf)) 4) true)):=nF (nat:=tA) DJ (dB HX) fun p K hpre hK=>by
 dsimp only at hpre hK ⊢
 obtain⟨h1,h2⟩:=hpre
 have yg {g:Prop} (h:g:=by first|(exact⟨h1,h2,by omega,by omega,by simp⟩)|fail):g:=h
 have yp {g:Prop} (h:g:=by first|(first|exact⟨by decide,fun _=>by assumption,fun h=>absurd rfl h⟩|exact⟨by omega,fun h=>by omega,fun _=>by assumption⟩)|fail):g:=h
 exact wz
noncomputable def qj:NN:=gj tA Ow [(0,25),(1,13)] (fun us M=>Nat.beq (xA us 1 M) 64)
noncomputable def bd_l_dfout':NV (df [] [] [] 0x3078f3c87ccab4f681ebfefa736902677fb79bd72783e5d28d4bd546900f77dd9e4f07d513d8da2c28d2d067c92a7b515b0408dd3d615a0bf3457d393):=⟨_,by conv=>rhs;reduce⟩
noncomputable abbrev pw:XC:=bd_l_dfout'.1
noncomputable def ft_dfout':NV (fun b0=>aB [] [] [b0] 0x7da3a8561a7ce6524a4e5abd79ba4e089f0890fb0475d865d52ee095094c1aede60a49db37cf371954fdf3e5d9a52ac6c7d59b2cbe):=⟨_,by conv=>rhs;reduce⟩
noncomputable abbrev QD:XF:=ft_dfout'.1 pw
theorem El:aK Tryz.prog 80 QD=true:=by kernel_rfl
structure zb where
 l:List Int
 N:Int
 mh:Value
 m:List Int
 o:List Int
 i:Int
 j:Int
structure Na where
 o:List Int
 i:Int
noncomputable def Px:bN:=cq bT 0 (fun p:zb=>((.cons 6 (.sy (.int 0 p.j)) (.cons 5 (.sy (.int 0 p.i)) (.cons 1 (.fn 81 [.ptr 1 0]) (.cons 0 (.sy (.prow 0 p.l.length)) .nil)))),(.node (.node (.node .leaf (some (da p.N p.mh p.m)) .leaf) (some (cY 64 2)) .leaf) (some (aE p.o)) (.node .leaf (some (cY 62 3)) .leaf)),4)) (fun p=>p.l.length≤1000000∧p.m.length≤1000000∧0≤p.i∧p.i≤p.j∧p.j≤(p.l.length:Int)∧p.o.length=p.l.length∧p.o.take p.i.toNat=(p.l.take p.j.toNat).filter (fun x=>decide (¬x∈p.m))∧p.o.drop p.j.toNat=p.l.drop p.j.toNat) (fun p K=>aj fun r:Na=>iP (0≤r.i∧r.i≤(p.l.length:Int)∧r.o.length=p.l.length∧r.o.take r.i.toNat=p.l.filter (fun x=>decide (¬x∈p.m))) (K 2 (.cons 5 (.sy (.int 0 r.i)) (.cons 0 (.sy (.prow 0 p.l.length)) .nil)) (.node (.node (.node .leaf (some (da p.N p.mh p.m)) .leaf) (some (cY 64 2)) .leaf) (some (aE r.o)) (.node .leaf (some (cY 62 3)) .leaf)) 4) true)
theorem Ia:bj Tryz.prog 42 4 Px true 0 pw:=lL (nat:=qj) (fun p:zb=>((p.l.length:Int) - p.j).toNat) cy (fun _ _ _ _=>rfl) fun p K hpre hK=>by
 dsimp only at hpre hK ⊢
 obtain⟨g0,g00,g1,g2,g3,g4,g5,g6⟩:=hpre
 have nnx:=trivial
 have nnh:=trivial
 have nnq:=trivial
 have yp {g:Prop} (h:g:=by first|(rw[List.take_of_length_le (show p.l.length≤p.j.toNat by omega)]at g5;exact⟨g1,by omega,g4,g5⟩)|fail):g:=h
 have yb {g:Prop} (h:g:=by first|(first|exact⟨g0,g00,rG g1 g2 g3 g4 g5 g6 (by omega) (by assumption) (by have hD:¬(x1∈p.m):=(by first|assumption|(simp_all;done)|(intro hq;simp_all;done)|(intro hq;exact(by assumption:∀y:Int,y∈p.gt→¬x1=y) _ hq rfl));simpa using hD)⟩|exact⟨g0,g00,rH g1 g2 g3 g4 g5 g6 (by omega) hi1 (by have hD:x1∈p.m:=(by first|assumption|(simp_all;done)|(intro hq;simp_all;done)|(intro hq;exact(by assumption:∀y:Int,y∈p.gt→¬x1=y) _ hq rfl));simpa using hD)⟩)|fail):g:=h
 have yq {g:Prop} (h:g:=by first|(refine wX x1 (by first|exact sd|exact ys) ?_;exact wz)|(exact jM (.mk p.l ..))|fail):g:=h
 exact wz
structure abO where
 l:List Int
 N:Int
 mh:Value
 m:List Int
structure aa8 where
 o:List Int
theorem OU:aA Tryz.prog 80 4 (aO (fun p:abO=>([.sy (.prow 0 p.l.length),.fn 81 [.ptr 1 0]],(.node (.node (.node .leaf (some (da p.N p.mh p.m)) .leaf) (some (cY 64 2)) .leaf) (some (aE p.l)) (.node .leaf (some (cY 62 3)) .leaf)),4)) (fun p=>p.l.length≤1000000∧p.m.length≤1000000) (fun p K=>aj fun r:aa8=>iP (r.o=p.l.filter (fun x=>decide (¬x∈p.m))∧r.o.length≤p.l.length) (K (.sy (.prow 0 r.o.length)) (.node (.node (.node .leaf (some (da p.N p.mh p.m)) .leaf) (some (cY 64 2)) .leaf) (some (aE r.o)) (.node .leaf (some (cY 62 3)) .leaf)) 4) true)):=nF (nat:=qj) El (dB Ia) fun p K hpre hK=>by
 dsimp only at hpre hK ⊢
 obtain⟨h1,h2⟩:=hpre
 have ys {g:Prop} (h:g:=by first|(first|omega|(simp;done)|(simp;omega)|(simp only[ami];omega);done)|(exact⟨rfl,rfl,by first|omega|(simp only[ami];omega)⟩;done)|fail):g:=h
 have yg {g:Prop} (h:g:=by first|(first|omega|assumption|exact⟨by omega,by omega⟩)|(have hz:=(hi.2.2 (by assumption));exact⟨h1,h2,pp (fun x=>by simp) hz⟩)|fail):g:=h
 have yp {g:Prop} (h:g:=by first|(first|exact vw (fun x=>by simp) (hi.2.1 (by assumption))|exact vv (by assumption))|fail):g:=h
 have yq {g:Prop} (h:g:=by first|(refine cb (.mk p.l ..) (h:= ?_);exact wo)|fail):g:=h
 exact wz
noncomputable def qp:NN:=gj qj OU [(0,25),(1,13)] (fun us M=>Nat.beq (xA us 1 M) 64)
noncomputable abbrev vB:XC:=qP
noncomputable def ft_xfold':NV (fun b0=>aB [] [] [b0] 0x4d8279425a6cabc65df06a9081ebd3c081013f426be8):=⟨_,by conv=>rhs;reduce⟩
noncomputable abbrev Qa:XF:=ft_xfold'.1 vB
theorem DK:aK Tryz.prog 112 Qa=true:=by kernel_rfl
structure yZ where
 l:List Int
 N:Int
 mh:Value
 m:List Int
 i:Int
structure Jw where
 z:Int
noncomputable def Pr:bN:=cq bT 0 (fun p:yZ=>((.cons 8 (.sy (.int 0 p.i)) (.cons 7 (.sy (.int 0 (p.l.length:Int))) (.cons 1 (.fn 81 [.ptr 1 0]) (.cons 0 (.sy (.prow 0 p.l.length)) .nil)))),(.node (.node .leaf (some (cY 164 2)) .leaf) (some (aE p.l)) (.node .leaf (some (da p.N p.mh p.m)) .leaf)),3)) (fun p=>p.l.length≤1000000∧p.m.length≤1000000∧0≤p.i∧p.i≤(p.l.length:Int)∧(∀x∈p.l.take p.i.toNat,¬(x∈p.m))) (fun p K=>ae (iP (∀x∈p.l,¬(x∈p.m)) (K 2 .nil (.node (.node .leaf (some (cY 164 2)) .leaf) (some (aE p.l)) (.node .leaf (some (da p.N p.mh p.m)) .leaf)) 3) true) (aj fun r:Jw=>iP (0≤r.z∧r.z<(p.l.length:Int)∧(∀x∈p.l.take r.z.toNat,¬(x∈p.m))∧∀x,p.l[r.z.toNat]?=some x→x∈p.m) (K 1 (.cons 4 (.sy (.int 0 r.z)) .nil) (.node (.node .leaf (some (cY 164 2)) .leaf) (some (aE p.l)) (.node .leaf (some (da p.N p.mh p.m)) .leaf)) 3) true))
theorem HY:bj Tryz.prog 19 3 Pr true 0 vB:=lL (nat:=qp) (fun p:yZ=>((p.l.length:Int) - p.i).toNat) cy (fun _ _ _ _=>rfl) fun p K hpre hK=>by
 dsimp only at hpre hK ⊢
 obtain⟨hK0,hKr0⟩:=ac hK
 have hK1:=hKr0
 obtain⟨g0,g00,g1,g2,g3⟩:=hpre
 have nnx:=trivial
 have nnh:=trivial
 have nnq:=trivial
 have yp {g:Prop} (h:g:=by first|(rw[List.take_of_length_le (by omega)]at g3;exact g3)|(have hD:x1∈p.m:=(by first|assumption|(simp_all;done)|(intro hq;simp_all;done)|(intro hq;exact(by assumption:∀y:Int,y∈p.gt→¬x1=y) _ hq rfl));exact⟨g1,by omega,g3,fun x hx=>by rw[hi1]at hx;injection hx with hx;subst hx;exact hD⟩)|fail):g:=h
 have yb {g:Prop} (h:g:=by first|(refine⟨g0,g00,by omega,by omega,?_⟩;rw[show(p.i+1).toNat=p.i.toNat+1 by omega,List.take_add_one,hi1];have hD:¬(x1∈p.m):=(by first|assumption|(simp_all;done)|(intro hq;simp_all;done)|(intro hq;exact(by assumption:∀y:Int,y∈p.gt→¬x1=y) _ hq rfl));intro x hx;rcases amh.1 hx with hx|hx;exact g3 x hx;simp only[Option.toList,List.mem_singleton]at hx;subst hx;exact hD)|fail):g:=h
 exact wz
structure abm where
 l:List Int
 N:Int
 mh:Value
 m:List Int
structure aaA where
 z:Int
theorem Ox:aA Tryz.prog 112 3 (aO (fun p:abm=>([.sy (.prow 0 p.l.length),.fn 81 [.ptr 1 0]],(.node (.node .leaf (some (cY 164 2)) .leaf) (some (aE p.l)) (.node .leaf (some (da p.N p.mh p.m)) .leaf)),3)) (fun p=>p.l.length≤1000000∧p.m.length≤1000000) (fun p K=>aj fun r:aaA=>iP (-1≤r.z∧(r.z= -1→∀x∈p.l,¬(x∈p.m))∧(¬r.z= -1→0≤r.z∧r.z<(p.l.length:Int)∧(∀x∈p.l.take r.z.toNat,¬(x∈p.m))∧∀x,p.l[r.z.toNat]?=some x→x∈p.m)) (K (.sy (.int 0 r.z)) (.node (.node .leaf (some (cY 164 2)) .leaf) (some (aE p.l)) (.node .leaf (some (da p.N p.mh p.m)) .leaf)) 3) true)):=nF (nat:=qp) DK (dB HY) fun p K hpre hK=>by
 dsimp only at hpre hK ⊢
 obtain⟨h1,h2⟩:=hpre
 have yg {g:Prop} (h:g:=by first|(exact⟨h1,h2,by omega,by omega,by simp⟩)|fail):g:=h
 have yp {g:Prop} (h:g:=by first|(first|exact⟨by decide,fun _=>by assumption,fun h=>absurd rfl h⟩|exact⟨by omega,fun h=>by omega,fun _=>by assumption⟩)|fail):g:=h
 exact wz
noncomputable def qk:NN:=gj qp Ox [(0,25),(1,13)] (fun us M=>Nat.beq (xA us 1 M) 164)
noncomputable abbrev vD:XC:=qS
noncomputable def ft_dfold':NV (fun b0=>aB [] [] [b0] 0xdf5bd5ee67fa7d041252686d4a2ec39d8c8101be40dace6af9da17e22d75846704c14f6d39c1598dd1c3f02f0310a6bec62cb785ce):=⟨_,by conv=>rhs;reduce⟩
noncomputable abbrev QE:XF:=ft_dfold'.1 vD
theorem Em:aK Tryz.prog 80 QE=true:=by kernel_rfl
structure zc where
 l:List Int
 N:Int
 mh:Value
 m:List Int
 o:List Int
 i:Int
 j:Int
structure Nb where
 o:List Int
 i:Int
noncomputable def Py:bN:=cq bT 0 (fun p:zc=>((.cons 6 (.sy (.int 0 p.j)) (.cons 5 (.sy (.int 0 p.i)) (.cons 1 (.fn 81 [.ptr 1 0]) (.cons 0 (.sy (.prow 0 p.l.length)) .nil)))),(.node (.node .leaf (some (cY 164 2)) .leaf) (some (aE p.o)) (.node .leaf (some (da p.N p.mh p.m)) .leaf)),3)) (fun p=>p.l.length≤1000000∧p.m.length≤1000000∧0≤p.i∧p.i≤p.j∧p.j≤(p.l.length:Int)∧p.o.length=p.l.length∧p.o.take p.i.toNat=(p.l.take p.j.toNat).filter (fun x=>decide (¬x∈p.m))∧p.o.drop p.j.toNat=p.l.drop p.j.toNat) (fun p K=>aj fun r:Nb=>iP (0≤r.i∧r.i≤(p.l.length:Int)∧r.o.length=p.l.length∧r.o.take r.i.toNat=p.l.filter (fun x=>decide (¬x∈p.m))) (K 2 (.cons 5 (.sy (.int 0 r.i)) (.cons 0 (.sy (.prow 0 p.l.length)) .nil)) (.node (.node .leaf (some (cY 164 2)) .leaf) (some (aE r.o)) (.node .leaf (some (da p.N p.mh p.m)) .leaf)) 3) true)
theorem Ib:bj Tryz.prog 42 3 Py true 0 vD:=lL (nat:=qk) (fun p:zc=>((p.l.length:Int) - p.j).toNat) cy (fun _ _ _ _=>rfl) fun p K hpre hK=>by
 dsimp only at hpre hK ⊢
 obtain⟨g0,g00,g1,g2,g3,g4,g5,g6⟩:=hpre
 have nnx:=trivial
 have nnh:=trivial
 have nnq:=trivial
 have yp {g:Prop} (h:g:=by first|(rw[List.take_of_length_le (show p.l.length≤p.j.toNat by omega)]at g5;exact⟨g1,by omega,g4,g5⟩)|fail):g:=h
 have yb {g:Prop} (h:g:=by first|(first|exact⟨g0,g00,rG g1 g2 g3 g4 g5 g6 (by omega) (by assumption) (by have hD:¬(x1∈p.m):=(by first|assumption|(simp_all;done)|(intro hq;simp_all;done)|(intro hq;exact(by assumption:∀y:Int,y∈p.gt→¬x1=y) _ hq rfl));simpa using hD)⟩|exact⟨g0,g00,rH g1 g2 g3 g4 g5 g6 (by omega) hi1 (by have hD:x1∈p.m:=(by first|assumption|(simp_all;done)|(intro hq;simp_all;done)|(intro hq;exact(by assumption:∀y:Int,y∈p.gt→¬x1=y) _ hq rfl));simpa using hD)⟩)|fail):g:=h
 have yq {g:Prop} (h:g:=by first|(refine wX x1 (by first|exact sd|exact ys) ?_;exact wz)|(exact jM (.mk p.l ..))|fail):g:=h
 exact wz
structure abP where
 l:List Int
 N:Int
 mh:Value
 m:List Int
structure aa9 where
 o:List Int
theorem OW:aA Tryz.prog 80 3 (aO (fun p:abP=>([.sy (.prow 0 p.l.length),.fn 81 [.ptr 1 0]],(.node (.node .leaf (some (cY 164 2)) .leaf) (some (aE p.l)) (.node .leaf (some (da p.N p.mh p.m)) .leaf)),3)) (fun p=>p.l.length≤1000000∧p.m.length≤1000000) (fun p K=>aj fun r:aa9=>iP (r.o=p.l.filter (fun x=>decide (¬x∈p.m))∧r.o.length≤p.l.length) (K (.sy (.prow 0 r.o.length)) (.node (.node .leaf (some (cY 164 2)) .leaf) (some (aE r.o)) (.node .leaf (some (da p.N p.mh p.m)) .leaf)) 3) true)):=nF (nat:=qk) Em (dB Ib) fun p K hpre hK=>by
 dsimp only at hpre hK ⊢
 obtain⟨h1,h2⟩:=hpre
 have ys {g:Prop} (h:g:=by first|(first|omega|(simp;done)|(simp;omega)|(simp only[ami];omega);done)|(exact⟨rfl,rfl,by first|omega|(simp only[ami];omega)⟩;done)|fail):g:=h
 have yg {g:Prop} (h:g:=by first|(first|omega|assumption|exact⟨by omega,by omega⟩)|(have hz:=(hi.2.2 (by assumption));exact⟨h1,h2,pp (fun x=>by simp) hz⟩)|fail):g:=h
 have yp {g:Prop} (h:g:=by first|(first|exact vw (fun x=>by simp) (hi.2.1 (by assumption))|exact vv (by assumption))|fail):g:=h
 have yq {g:Prop} (h:g:=by first|(refine cb (.mk p.l ..) (h:= ?_);exact wo)|fail):g:=h
 exact wz
noncomputable def qq:NN:=gj qk OW [(0,25),(1,13)] (fun us M=>Nat.beq (xA us 1 M) 164)
noncomputable abbrev vC:XC:=pv
noncomputable def ft_xfgot':NV (fun b0=>aB [] [] [b0] 0x2b99643552dd209fafada74adac221142507f150255d):=⟨_,by conv=>rhs;reduce⟩
noncomputable abbrev Qb:XF:=ft_xfgot'.1 vC
theorem DL:aK Tryz.prog 112 Qb=true:=by kernel_rfl
structure za where
 l:List Int
 q:Nat→Value
 mh:Value
 m:List Int
 ph:Int
 gt:List Int
 i:Int
structure Jy where
 z:Int
noncomputable def Ps:bN:=cq bT 0 (fun p:za=>((.cons 8 (.sy (.int 0 p.i)) (.cons 7 (.sy (.int 0 (p.l.length:Int))) (.cons 1 (.fn 124 [.ptr 1 0]) (.cons 0 (.sy (.prow 0 p.l.length)) .nil)))),(.node (.node (.node .leaf (some (.kmap true true false Int p.gt am cF)) .leaf) (some (mS 81 2)) .leaf) (some (aE p.l)) (.node .leaf (some (qe p.q p.mh p.m p.ph 3)) .leaf)),4)) (fun p=>p.l.length≤1000000∧0≤p.i∧p.i≤(p.l.length:Int)∧(∀x∈p.l.take p.i.toNat,¬(x∈p.gt))) (fun p K=>ae (iP (∀x∈p.l,¬(x∈p.gt)) (K 2 .nil (.node (.node (.node .leaf (some (.kmap true true false Int p.gt am cF)) .leaf) (some (mS 81 2)) .leaf) (some (aE p.l)) (.node .leaf (some (qe p.q p.mh p.m p.ph 3)) .leaf)) 4) true) (aj fun r:Jy=>iP (0≤r.z∧r.z<(p.l.length:Int)∧(∀x∈p.l.take r.z.toNat,¬(x∈p.gt))∧∀x,p.l[r.z.toNat]?=some x→x∈p.gt) (K 1 (.cons 4 (.sy (.int 0 r.z)) .nil) (.node (.node (.node .leaf (some (.kmap true true false Int p.gt am cF)) .leaf) (some (mS 81 2)) .leaf) (some (aE p.l)) (.node .leaf (some (qe p.q p.mh p.m p.ph 3)) .leaf)) 4) true))
theorem HZ:bj Tryz.prog 19 4 Ps true 0 vC:=lL (nat:=qq) (fun p:za=>((p.l.length:Int) - p.i).toNat) cy (fun _ _ _ _=>rfl) fun p K hpre hK=>by
 dsimp only at hpre hK ⊢
 obtain⟨hK0,hKr0⟩:=ac hK
 have hK1:=hKr0
 obtain⟨g0,g1,g2,g3⟩:=hpre
 have nnx:=trivial
 have nnh:=trivial
 have yp {g:Prop} (h:g:=by first|(rw[List.take_of_length_le (by omega)]at g3;exact g3)|(have hD:x1∈p.gt:=(by first|assumption|(simp_all;done)|(intro hq;simp_all;done)|(intro hq;exact(by assumption:∀y:Int,y∈p.gt→¬x1=y) _ hq rfl));exact⟨g1,by omega,g3,fun x hx=>by rw[hi1]at hx;injection hx with hx;subst hx;exact hD⟩)|fail):g:=h
 have yb {g:Prop} (h:g:=by first|(refine⟨g0,by omega,by omega,?_⟩;rw[show(p.i+1).toNat=p.i.toNat+1 by omega,List.take_add_one,hi1];have hD:¬(x1∈p.gt):=(by first|assumption|(simp_all;done)|(intro hq;simp_all;done)|(intro hq;exact(by assumption:∀y:Int,y∈p.gt→¬x1=y) _ hq rfl));intro x hx;rcases amh.1 hx with hx|hx;exact g3 x hx;simp only[Option.toList,List.mem_singleton]at hx;subst hx;exact hD)|fail):g:=h
 have yz {g:Prop} (h:g:=by first|(first|assumption|(intro h;simp_all);done)|fail):g:=h
 have yq {g:Prop} (h:g:=by first|(refine aY (fun y=>x1=y) ?_;exact wz)|fail):g:=h
 exact wz
structure abn where
 l:List Int
 q:Nat→Value
 mh:Value
 m:List Int
 ph:Int
 gt:List Int
structure aaB where
 z:Int
theorem Oy:aA Tryz.prog 112 4 (aO (fun p:abn=>([.sy (.prow 0 p.l.length),.fn 124 [.ptr 1 0]],(.node (.node (.node .leaf (some (.kmap true true false Int p.gt am cF)) .leaf) (some (mS 81 2)) .leaf) (some (aE p.l)) (.node .leaf (some (qe p.q p.mh p.m p.ph 3)) .leaf)),4)) (fun p=>p.l.length≤1000000) (fun p K=>aj fun r:aaB=>iP (-1≤r.z∧(r.z= -1→∀x∈p.l,¬(x∈p.gt))∧(¬r.z= -1→0≤r.z∧r.z<(p.l.length:Int)∧(∀x∈p.l.take r.z.toNat,¬(x∈p.gt))∧∀x,p.l[r.z.toNat]?=some x→x∈p.gt)) (K (.sy (.int 0 r.z)) (.node (.node (.node .leaf (some (.kmap true true false Int p.gt am cF)) .leaf) (some (mS 81 2)) .leaf) (some (aE p.l)) (.node .leaf (some (qe p.q p.mh p.m p.ph 3)) .leaf)) 4) true)):=nF (nat:=qq) DL (dB HZ) fun p K hpre hK=>by
 dsimp only at hpre hK ⊢
 have h1:=hpre
 have yg {g:Prop} (h:g:=by first|(exact⟨h1,by omega,by omega,by simp⟩)|fail):g:=h
 have yp {g:Prop} (h:g:=by first|(first|exact⟨by decide,fun _=>by assumption,fun h=>absurd rfl h⟩|exact⟨by omega,fun h=>by omega,fun _=>by assumption⟩)|fail):g:=h
 exact wz
noncomputable def ql:NN:=gj qq Oy [(0,25),(1,13)] (fun us M=>Nat.beq (tP us 1) 124)
noncomputable abbrev vE:XC:=pw
noncomputable def ft_dfgot':NV (fun b0=>aB [] [] [b0] 0x7da3a8561a7ce6524a4e5abd79ba4e089f0890fb0475d865d52ee095094c1aede60a49db37cf371954fdf3e5d9a52ac6c7d59b2cbe):=⟨_,by conv=>rhs;reduce⟩
noncomputable abbrev QF:XF:=ft_dfgot'.1 vE
theorem En:aK Tryz.prog 80 QF=true:=by kernel_rfl
structure zd where
 l:List Int
 q:Nat→Value
 mh:Value
 m:List Int
 ph:Int
 gt:List Int
 o:List Int
 i:Int
 j:Int
structure Nc where
 o:List Int
 i:Int
noncomputable def Pz:bN:=cq bT 0 (fun p:zd=>((.cons 6 (.sy (.int 0 p.j)) (.cons 5 (.sy (.int 0 p.i)) (.cons 1 (.fn 124 [.ptr 1 0]) (.cons 0 (.sy (.prow 0 p.l.length)) .nil)))),(.node (.node (.node .leaf (some (.kmap true true false Int p.gt am cF)) .leaf) (some (mS 81 2)) .leaf) (some (aE p.o)) (.node .leaf (some (qe p.q p.mh p.m p.ph 3)) .leaf)),4)) (fun p=>p.l.length≤1000000∧0≤p.i∧p.i≤p.j∧p.j≤(p.l.length:Int)∧p.o.length=p.l.length∧p.o.take p.i.toNat=(p.l.take p.j.toNat).filter (fun x=>decide (¬x∈p.gt))∧p.o.drop p.j.toNat=p.l.drop p.j.toNat) (fun p K=>aj fun r:Nc=>iP (0≤r.i∧r.i≤(p.l.length:Int)∧r.o.length=p.l.length∧r.o.take r.i.toNat=p.l.filter (fun x=>decide (¬x∈p.gt))) (K 2 (.cons 5 (.sy (.int 0 r.i)) (.cons 0 (.sy (.prow 0 p.l.length)) .nil)) (.node (.node (.node .leaf (some (.kmap true true false Int p.gt am cF)) .leaf) (some (mS 81 2)) .leaf) (some (aE r.o)) (.node .leaf (some (qe p.q p.mh p.m p.ph 3)) .leaf)) 4) true)
theorem Ic:bj Tryz.prog 42 4 Pz true 0 vE:=lL (nat:=ql) (fun p:zd=>((p.l.length:Int) - p.j).toNat) cy (fun _ _ _ _=>rfl) fun p K hpre hK=>by
 dsimp only at hpre hK ⊢
 obtain⟨g0,g1,g2,g3,g4,g5,g6⟩:=hpre
 have nnx:=trivial
 have nnh:=trivial
 have yp {g:Prop} (h:g:=by first|(rw[List.take_of_length_le (show p.l.length≤p.j.toNat by omega)]at g5;exact⟨g1,by omega,g4,g5⟩)|fail):g:=h
 have yb {g:Prop} (h:g:=by first|(first|exact⟨g0,rG g1 g2 g3 g4 g5 g6 (by omega) (by assumption) (by have hD:¬(x1∈p.gt):=(by first|assumption|(simp_all;done)|(intro hq;simp_all;done)|(intro hq;exact(by assumption:∀y:Int,y∈p.gt→¬x1=y) _ hq rfl));simpa using hD)⟩|exact⟨g0,rH g1 g2 g3 g4 g5 g6 (by omega) hi1 (by have hD:x1∈p.gt:=(by first|assumption|(simp_all;done)|(intro hq;simp_all;done)|(intro hq;exact(by assumption:∀y:Int,y∈p.gt→¬x1=y) _ hq rfl));simpa using hD)⟩)|fail):g:=h
 have yz {g:Prop} (h:g:=by first|(first|assumption|(intro h;simp_all);done)|fail):g:=h
 have yq {g:Prop} (h:g:=by first|(refine aY (fun y=>x1=y) ?_;exact wz)|(refine wX x1 (by first|exact sd|exact ys) ?_;exact wz)|(exact jM (.mk p.l ..))|fail):g:=h
 exact wz
structure abQ where
 l:List Int
 q:Nat→Value
 mh:Value
 m:List Int
 ph:Int
 gt:List Int
structure aba where
 o:List Int
theorem OX:aA Tryz.prog 80 4 (aO (fun p:abQ=>([.sy (.prow 0 p.l.length),.fn 124 [.ptr 1 0]],(.node (.node (.node .leaf (some (.kmap true true false Int p.gt am cF)) .leaf) (some (mS 81 2)) .leaf) (some (aE p.l)) (.node .leaf (some (qe p.q p.mh p.m p.ph 3)) .leaf)),4)) (fun p=>p.l.length≤1000000) (fun p K=>aj fun r:aba=>iP (r.o=p.l.filter (fun x=>decide (¬x∈p.gt))∧r.o.length≤p.l.length) (K (.sy (.prow 0 r.o.length)) (.node (.node (.node .leaf (some (.kmap true true false Int p.gt am cF)) .leaf) (some (mS 81 2)) .leaf) (some (aE r.o)) (.node .leaf (some (qe p.q p.mh p.m p.ph 3)) .leaf)) 4) true)):=nF (nat:=ql) En (dB Ic) fun p K hpre hK=>by
 dsimp only at hpre hK ⊢
 have h1:=hpre
 have ys {g:Prop} (h:g:=by first|(first|omega|(simp;done)|(simp;omega)|(simp only[ami];omega);done)|(exact⟨rfl,rfl,by first|omega|(simp only[ami];omega)⟩;done)|fail):g:=h
 have yg {g:Prop} (h:g:=by first|(first|omega|assumption|exact⟨by omega,by omega⟩)|(have hz:=(hi.2.2 (by assumption));exact⟨h1,pp (fun x=>by simp) hz⟩)|fail):g:=h
 have yp {g:Prop} (h:g:=by first|(first|exact vw (fun x=>by simp) (hi.2.1 (by assumption))|exact vv (by assumption))|fail):g:=h
 have yq {g:Prop} (h:g:=by first|(refine cb (.mk p.l ..) (h:= ?_);exact wo)|fail):g:=h
 exact wz
noncomputable def yo:NN:=gj ql OX [(0,25),(1,13)] (fun us M=>Nat.beq (tP us 1) 124)
noncomputable def ft_keepin':NV (aB [] [] [] 0x5319491adf1e08c73f6d328eb0f62d40):=⟨_,by conv=>rhs;reduce⟩
noncomputable abbrev LQ:XF:=ft_keepin'.1
theorem mc:aK Tryz.prog 63 LQ=true:=by kernel_rfl
structure Sx where
 l:List Int
 N:Int
 mh:Value
 m:List Int
structure RM where
 o:List Int
theorem KB:aA Tryz.prog 63 2 (aO (fun p:Sx=>([.sy (.prow 0 p.l.length),.fn 62 [.ptr 1 0]],(.node (.node .leaf (some (da p.N p.mh p.m)) .leaf) (some (aE p.l)) .leaf),2)) (fun p=>p.l.length≤1000000∧p.m.length≤1000000) (fun p K=>aj fun r:RM=>iP (r.o=p.l.filter (fun x=>decide (x∈p.m))∧r.o.length≤p.l.length) (K (.sy (.prow 2 r.o.length)) (.node (.node .leaf (some (da p.N p.mh p.m)) .leaf) (some (aE p.l)) (.node .leaf (some (aE r.o)) .leaf)) 3) true)):=nE (nat:=yo) mc fun p K hpre hK=>by
 dsimp only at hpre hK ⊢
 obtain⟨h1,h2⟩:=hpre
 have nnh:=trivial
 have yg {g:Prop} (h:g:=by first|(first|omega|assumption|exact⟨by omega,by omega⟩)|fail):g:=h
 have yp {g:Prop} (h:g:=by first|(rw[←hi1.1];exact⟨hi.1,hi.2⟩)|fail):g:=h
 exact wz
noncomputable def uI:NN:=gj yo KB [(0,25),(1,13)] (fun us M=>Nat.beq (tP us 1) 62)
structure Nw where
 l:List Int
 N:Int
 mh:Value
 m:List Int
structure Nd where
 o:List Int
theorem HK:aA Tryz.prog 63 3 (aO (fun p:Nw=>([.sy (.prow 0 p.l.length),.fn 64 [.ptr 1 0]],(.node (.node .leaf (some (cY 62 2)) .leaf) (some (aE p.l)) (.node .leaf (some (da p.N p.mh p.m)) .leaf)),3)) (fun p=>p.l.length≤1000000∧p.m.length≤1000000) (fun p K=>aj fun r:Nd=>iP (r.o=p.l.filter (fun x=>decide (¬x∈p.m))∧r.o.length≤p.l.length) (K (.sy (.prow 3 r.o.length)) (.node (.node (.node .leaf (some (aE r.o)) .leaf) (some (cY 62 2)) .leaf) (some (aE p.l)) (.node .leaf (some (da p.N p.mh p.m)) .leaf)) 4) true)):=nE (nat:=uI) mc fun p K hpre hK=>by
 dsimp only at hpre hK ⊢
 obtain⟨h1,h2⟩:=hpre
 have nnh:=trivial
 have yg {g:Prop} (h:g:=by first|(first|omega|assumption|exact⟨by omega,by omega⟩)|fail):g:=h
 have yp {g:Prop} (h:g:=by first|(rw[←hi1.1];exact⟨hi.1,hi.2⟩)|fail):g:=h
 exact wz
noncomputable def sA:NN:=gj uI HK [(0,25),(1,13)] (fun us M=>Nat.beq (tP us 1) 64)
structure Nx where
 h:Value
 l:List Int
 N:Int
 mh:Value
 m:List Int
structure Nf where
 o:List Int
theorem HL:aA Tryz.prog 63 1 (aO (fun p:Nx=>([.sy (.imm p.h 2 Int p.l am),.fn 164 [.ptr 0 0]],(.node .leaf (some (da p.N p.mh p.m)) .leaf),1)) (fun p=>p.l.length≤1000000∧p.m.length≤1000000) (fun p K=>aj fun r:Nf=>iP (r.o=p.l.filter (fun x=>decide (¬x∈p.m))∧r.o.length≤p.l.length) (K (.sy (.prow 1 r.o.length)) (.node (.node .leaf (some (aE r.o)) .leaf) (some (da p.N p.mh p.m)) .leaf) 2) true)):=nE (nat:=sA) mc fun p K hpre hK=>by
 dsimp only at hpre hK ⊢
 obtain⟨h1,h2⟩:=hpre
 have nnh:=trivial
 have yg {g:Prop} (h:g:=by first|(first|omega|assumption|exact⟨by omega,by omega⟩)|fail):g:=h
 have yp {g:Prop} (h:g:=by first|(rw[←hi1.1];exact⟨hi.1,hi.2⟩)|fail):g:=h
 exact wz
noncomputable def sB:NN:=gj sA HL [(0,23),(1,13)] (fun us M=>Nat.beq (tP us 1) 164)
noncomputable def ft_missing':NV (fun e0=>aB [e0] [] [] 0x3eeee04c36850b56bd7bf23a9bee6544698d058ee62bb1bfabbe208371f050ba51f2e0ca7422fca6f57f63):=⟨_,by conv=>rhs;reduce⟩
noncomputable abbrev IC:XF:=ft_missing'.1 (eB 52 2 am)
theorem zm:aK Tryz.prog 96 IC=true:=by kernel_rfl
structure Nt where
 q:Nat→Value
 mh:Value
 m:List Int
 ph:Int
 gt:List Int
structure MY where
 o:List Int
theorem HJ:aA Tryz.prog 96 2 (aO (fun p:Nt=>([.ptr 0 0],(.node (.node .leaf (some (.kmap true true false Int p.gt am cF)) .leaf) (some (qe p.q p.mh p.m p.ph 1)) .leaf),2)) (fun p=>p.m.length≤1000000) (fun p K=>aj fun r:MY=>iP (r.o=gZ p.ph p.m p.gt∧r.o.length≤p.m.length) (K (.sy (.prow 2 r.o.length)) (.node (.node .leaf (some (.kmap true true false Int p.gt am cF)) .leaf) (some (qe p.q p.mh p.m p.ph 1)) (.node .leaf (some (aE r.o)) .leaf)) 3) true)):=nE (nat:=sB) zm fun p K hpre hK=>by
 dsimp only at hpre hK ⊢
 have h1:=hpre
 have nnh:=trivial
 have yg {g:Prop} (h:g:=by first|(first|omega|assumption|exact⟨by omega,by omega⟩)|fail):g:=h
 have yp {g:Prop} (h:g:=by first|(unfold gZ;first|(rw[if_pos (by assumption)];exact⟨rfl,Nat.zero_le _⟩)|(rw[if_neg (by assumption),←hi2.1];exact⟨hi3.1,hi3.2⟩))|(unfold gZ;first|(rw[if_pos (by assumption)];exact⟨rfl,Nat.zero_le _⟩)|(rw[if_neg (by assumption),←hi1.1];exact⟨hi.1,hi.2⟩))|fail):g:=h
 exact wz
noncomputable def DE:NN:=iV sB HJ [(0,4)] [0,1,3,6,7,8,9,10]
end Go.Proofs.Tryz
namespace Go.Proofs.Tryz
open Go.Proofs.YtjhpjjbnojbikaaGreat (Procs pt tq kU pW Jp Keep pj)
open Go Go.RowKit Go.Sy
open Go.Eng hiding aj
set_option maxRecDepth 1000000
set_option linter.unusedVariables false
set_option maxHeartbeats 4000000
attribute [local irreducible] aq
theorem nh {E:Env} {ρ:Ren} {G:GS} {F:List aH} {M:T} {nx:Nat} {w:World} (hs:Sim E ρ G F M nx w) {h x:Value} {l:List Int} (hd:den E ρ (.sy (.imm h 2 Int l am))=some x):
  ∃ao cap,x= .slice ao l.length cap∧(0<l.length→∃b o,ao=some ⟨b,o,none⟩∧b<w.heap.size∧Procs w b o (l.map fun x=>(x,1))):=by
 obtain⟨h1,h2⟩:=ep (show dQ E (.imm h 2 Int l am)=some x from hd)
 obtain⟨ao,cap,rfl,q1,q2,q3,ha,hl,ho,hr⟩:=mR h1
 refine⟨ao,cap,h2,fun h0=>⟨blk ao,lS ao,ha h0,?_,fun j hj z hz=> ?_⟩⟩
 ·obtain⟨y,hy⟩:∃y,l[0]?=some y:=⟨_,List.getElem?_eq_getElem h0⟩
  have hm:=hr 0 y hy 0 (.int .u8 y) rfl
  have hc:=hs.cellM hm
  rcases Nat.lt_or_ge (blk ao) w.heap.size with q|q
  ·exact q
  ·rw[World.cell?,Array.getElem?_eq_none q]at hc;cases hc
 ·rw[List.getElem?_map]at hz
  obtain⟨y,hy,rfl⟩:=Option.map_eq_some_iff.1 hz
  have c0:=hs.cellM (hr j y hy 0 (.int .u8 y) rfl)
  have c1:=hs.cellM (hr j y hy 1 (.int .u16 1) rfl)
  exact⟨by simpa using c0,by simpa using c1⟩
theorem yI:∀{l:List Int},pj (l.map fun x=>(x,1))=(l.flatMap am).map aQ
 |[]=>rfl
 |x::l=>by
  have:=yI (l:=l)
  simp only[al9,List.flatMap_cons,List.map_append]at this ⊢
  rw[←this]
  rfl
theorem Wx {M:dS} {l:List Int}:∀p∈l.flatMap am,OkP M p:=fun p hp=>by
 obtain⟨x,_,hx⟩:=List.mem_flatMap.1 hp
 simp only[am,List.mem_cons,List.not_mem_nil,or_false]at hx
 rcases hx with rfl|rfl
 ·exact .sint _ _
 ·exact .int _ _
theorem Et {l d:List Int}:(l.map fun x=>(x,(1:Int))).filter (fun x=> !decide (x∈d.map fun x=>(x,(1:Int))))=(l.filter fun x=>decide (¬x∈d)).map fun x=>(x,1):=by
 rw[List.filter_map]
 congr 2
 funext x
 by_cases h:x∈d<;>simp[h]
theorem Ct {l d:List Int}:((l.map fun x=>(x,(1:Int))).filter (fun x=>decide (x∈d.map fun x=>(x,(1:Int))))).length=(l.filter fun x=>decide (x∈d)).length:=by
 rw[List.filter_map,al4]
 congr 2
 funext x
 by_cases h:x∈d<;>simp[h]
theorem vZ {E:Env} {ρ:Ren} {G:GS} {F:List aH} {M:T} {nx k:Nat} {w w':World} {K:AV→T→Nat→Bool} {R:Ending→World→Prop} {o:List Int} {r:Value} (hs:Sim E ρ G F M nx w) (hE:cK E)
  (hr:∀v M' nx' E' ρ' w' z,K v M' nx'=true→cK E'→MLe E.M E'.M→(∀i e,i<k→ρ i=some e→ρ' i=some e)→Sim E' ρ' G F M' nx' w'→den E' ρ' v=some z→R (.returned z) w')
  (hrow:w'.ownsRow w.heap.size 52 2 r o.length ((o.flatMap am).map aQ)) (hB:Below w.heap.size w w') (hk:T.set aP M nx (some (aE o)) (fun M'=>K (.sy (.prow nx o.length)) M' (nx+1))=true):R (.returned r) w':=by
 obtain⟨M',hK,g1,g2⟩:=T.set_ok _ _ _ _ _ hk
 have hfr:=hs.fresh nx (amj _)
 rcases hrow.2 with⟨rfl,h0⟩|⟨g',cap2,cur,rfl,r1,r2,r3,r4,r5,r6⟩
 ·have hnil:=amo h0
  rw[hnil]at g1
  refine hr _ _ _ E _ w' _ hK hE (MLe.refl _) (fun m e' hm he=>Ren.le_set _ hfr m e' he) ((hs.nilRow (by decide) g1 g2).ext hB) ?_
  simp only[den,aJ,Ren.set_self,h0]
  rfl
 ·have hS:Sim E (ρ.set nx ⟨g',cap2+1⟩) G F M' (nx+1) w':=hs.regrow (i:=nx) (old:=none) (o':=(aE o)) (ob':=.cells cur 52 (0,0)) hfr (Nat.le_succ _) (Nat.lt_succ_self _) (fun b h=>by cases h)
   ⟨hB.os,hB.tape,hB.output,hB.size,fun k hk _=>hB.block k hk⟩ r2 (.inr r1)
   ⟨cur,_,rfl,by decide,fun x _=>rfl,eI Wx,by simpa using r5,r6,by simpa using r3,by simpa using r4⟩ g1 (fun m hm _=>g2 m hm) (fun h=>absurd rfl h)
  refine hr _ _ _ E _ w' _ hK hE (MLe.refl _) (fun m e' hm he=>Ren.le_set _ hfr m e' he) hS ?_
  simp only[den,aJ,Ren.set_self]
  rfl
theorem iC {w:World} {b o:Nat} {x:Value} (h:w.cell? ⟨b,o,none⟩=some x):b<w.heap.size:=by
 rcases Nat.lt_or_ge b w.heap.size with q|q
 ·exact q
 ·rw[World.cell?,Array.getElem?_eq_none q]at h;cases h
structure gN where
 N:Int
 mh:Value
 m:List Int
 dh:Value
 d:List Int
structure vP where
 o:List Int
def nK (p:gN) (r:vP):Prop:=r.o=p.m.filter (fun x=>decide (¬x∈p.d))∧r.o.length≤p.m.length
noncomputable def dA (p:gN):IE:=([.fn 178 [.ptr 0 0,.ptr 1 0]],(.node (.node (.node .leaf (some (.blk false 43 1 [[.sy (.imm p.dh 2 Int p.d am)]])) .leaf) (some (cY 160 2)) .leaf) (some (da p.N p.mh p.m)) (.node .leaf (some (cY 176 3)) .leaf)),4)
noncomputable def sC (p:gN) (K:KE) (r:vP):Bool:=K (.sy (.prow 4 r.o.length)) (.node (.node (.node .leaf (some (.blk false 43 1 [[.sy (.imm p.dh 2 Int p.d am)]])) .leaf) (some (cY 160 2)) .leaf) (some (da p.N p.mh p.m)) (.node (.node .leaf (some (aE r.o)) .leaf) (some (cY 176 3)) .leaf)) 5
noncomputable def iS (p:gN) (K:KE):Bool:=aj fun r=>iP (nK p r) (sC p K r) true
def iQ (p:gN):Prop:=0<p.m.length∧p.m.length≤1000∧p.d.length≤1000
theorem Jg {s:IE} {K:KE} (w:gN) (e:∀t,dA w=t→s=t:=by first|(intro t h;dsimp only[dA]at h;subst h;exact rfl)|fail) (g:iQ w:=by first|((try dsimp only[iQ,oL,oN,Int.reduceNegSucc]);first|done|exact yg|trivial|assumption|omega|(refine⟨?_,?_,?_⟩<;>first|assumption|omega))|fail) (h:iS w K=true):Cl s dA iQ iS K:=wS w e g h
theorem DH:aA Tryz.prog 158 4 (fY dA (jO iQ iS)):=by
 intro us xs E ρ G F M nx w K R hE hs hd hk0 hr
 obtain⟨p,hk1⟩:=bk hk0
 obtain⟨e,hk2⟩:=ai hk1
 obtain⟨hpre,hk⟩:=ai hk2
 clear hk0 hk1 hk2
 have e1:us=(dA p).1:=congrArg Prod.fst e
 have e2:M=(dA p).2.1:=congrArg (fun x=>x.2.1) e
 have e3:nx=(dA p).2.2:=congrArg (fun x=>x.2.2) e
 clear e
 subst e1;subst e2;subst e3
 obtain⟨h1,h2,h3⟩:=hpre
 have ha:(dA p).2.1.get 0=some (da p.N p.mh p.m):=rfl
 have hb:(dA p).2.1.get 1=some (cY 160 2):=rfl
 have hc:(dA p).2.1.get 2=some (cY 176 3):=rfl
 have hdd:(dA p).2.1.get 3=some (.blk false 43 1 [[.sy (.imm p.dh 2 Int p.d am)]]):=rfl
 obtain⟨ba,xa,a1,a2,a3⟩:=hs.cell (q:=0) (r:=2) ha rfl rfl
 obtain⟨bb,xb,b1,b2,b3⟩:=hs.cell (q:=0) (r:=0) hb rfl rfl
 obtain⟨bc,xc,c1,c2,c3⟩:=hs.cell (q:=0) (r:=0) hc rfl rfl
 obtain⟨bd,xd,d1,d2,d3⟩:=hs.cell (q:=0) (r:=0) hdd rfl rfl
 simp only[Nat.zero_mul,Nat.zero_add,Nat.add_zero]at a3 b3 c3 d3
 obtain⟨ao,cap,rfl,hm⟩:=nh hs a2
 obtain⟨bv,ov,rfl,l1,p1⟩:=hm h1
 obtain⟨al,cd,rfl,hl0⟩:=nh hs d2
 simp only[den,ay,c1,d1,amm]at b2 c2
 subst b2;subst c2
 obtain⟨x0,ys,q0,q1,rfl⟩:=bf hd
 obtain rfl:ys=[]:=by simpa[ay] using q1.symm
 simp only[den,ay,a1,b1,amm]at q0
 subst q0
 have hlen:(p.m.map fun x=>(x,(1:Int))).length=p.m.length:=al4 _
 have hdlen:(p.d.map fun x=>(x,(1:Int))).length=p.d.length:=al4 _
 have body:=pt ba.b bb.b bv ov cap 160 #[.pointer (some ⟨bc.b,0,none⟩)] (p.m.map fun x=>(x,1)) (fun x=> !decide (x∈p.d.map fun x=>(x,(1:Int)))) (by rw[hlen];exact h2) (.inl rfl) w l1 (iC a3) (iC b3)
  (fun x _ W' hW=>by
   have h:=Jp (b:=3) (tq bc.b bd.b x (decide (x∈p.d.map fun x=>(x,(1:Int)))) W' (Nat.lt_of_lt_of_le (iC c3) hW.size) ((hW.cell (p:=⟨bc.b,0,none⟩) (iC c3) (iC c3)).trans c3) (fun W2 hB=>by
    have hK:=hW.trans (Keep.of hB)
    refine Jp (b:=3) (kU al bd.b cd (p.d.map fun x=>(x,(1:Int))) (by rw[hdlen];exact h3) x W2 (fun h0=> ?_) (Nat.lt_of_lt_of_le (iC d3) hK.size) (by rw[hdlen];exact(hK.cell (p:=⟨bd.b,0,none⟩) (iC d3) (iC d3)).trans d3))
    obtain⟨bl,ol,r1,r2,r3⟩:=hl0 (by rw[←hdlen];exact h0)
    exact⟨bl,ol,r1,Nat.lt_of_lt_of_le r2 hK.size,r3.keep hK r2 r2⟩))
   exact h)
  (by rw[hlen];exact a3) b3 p1
 refine(callsIn_wide.1 body).mono ?_
 rintro en w' ⟨r,rfl,hrow,hB⟩
 rw[Et,al4,yI]at hrow
 exact vZ hs hE hr hrow hB (dV (p:=nK p ⟨_⟩) ⟨rfl,List.length_filter_le _ _⟩ (aV hk ⟨_⟩))
noncomputable def AY:NN:=bY DE DH [(0,13)]
structure iG where
 N:Int
 mh:Value
 m:List Int
 lh:Value
 l:List Int
structure yW where
 q:Prop
def oI (p:iG) (r:yW):Prop:=r.q↔p.m.length / 2+1≤(p.m.filter (fun x=>decide (x∈p.l))).length
noncomputable def gE (p:iG):IE:=([(lU p.N p.mh p.m),.sy (.imm p.lh 2 Int p.l am)],.leaf,0)
noncomputable def va (p:iG) (K:KE) (r:yW):Bool:=K (.sy (.bool r.q)) .leaf 0
noncomputable def jG (p:iG) (K:KE):Bool:=aj fun r=>iP (oI p r) (va p K r) true
def jE (p:iG):Prop:=0<p.m.length∧p.m.length≤1000∧p.l.length≤1000
theorem MB {s:IE} {K:KE} (w:iG) (e:∀t,gE w=t→s=t:=by first|(intro t h;dsimp only[gE]at h;subst h;exact rfl)|fail) (g:jE w:=by first|((try dsimp only[jE,oL,oN,Int.reduceNegSucc]);first|done|exact yg|trivial|assumption|omega|(refine⟨?_,?_,?_⟩<;>first|assumption|omega))|fail) (h:jG w K=true):Cl s gE jE jG K:=wS w e g h
theorem HI:aA Tryz.prog 162 0 (fY gE (jO jE jG)):=by
 intro us xs E ρ G F M nx w K R hE hs hd hk0 hr
 obtain⟨p,hk1⟩:=bk hk0
 obtain⟨e,hk2⟩:=ai hk1
 obtain⟨hpre,hk⟩:=ai hk2
 clear hk0 hk1 hk2
 have e1:us=(gE p).1:=congrArg Prod.fst e
 have e2:M=(gE p).2.1:=congrArg (fun x=>x.2.1) e
 have e3:nx=(gE p).2.2:=congrArg (fun x=>x.2.2) e
 clear e
 subst e1;subst e2;subst e3
 obtain⟨h1,h2,h3⟩:=hpre
 obtain⟨x0,ys,q0,q1,rfl⟩:=bf hd
 obtain⟨x1,ys2,q2,q3,rfl⟩:=bf q1
 obtain rfl:ys2=[]:=by simpa[ay] using q3.symm
 have q0:(match ay E ρ [.int 1 (.ofNat 0),.sy (.int 3 p.N),.sy (.imm p.mh 2 Int p.m am)] with|some cs=>some (Value.agg cs.toArray)|none=>none)=some x0:=q0
 split at q0
 case h_2=>cases q0
 rename_i cs hcs
 obtain⟨y0,r0,w0,w1,rfl⟩:=bf hcs
 obtain⟨y1,r1,w2,w3,rfl⟩:=bf w1
 obtain⟨xm,r2,hxm,w5,rfl⟩:=bf w3
 obtain rfl:r2=[]:=by simpa[ay] using w5.symm
 obtain rfl:y0= .int .u8 0:=amp (w0.symm.trans rfl)
 obtain rfl:y1= .int .u32 p.N:=amp (w2.symm.trans rfl)
 obtain⟨ao,cap,rfl,hm⟩:=nh hs hxm
 obtain⟨bv,ov,rfl,l1,p1⟩:=hm h1
 obtain⟨al,cd,rfl,hl0⟩:=nh hs q2
 have hlen:(p.m.map fun x=>(x,(1:Int))).length=p.m.length:=al4 _
 have hdlen:(p.l.map fun x=>(x,(1:Int))).length=p.l.length:=al4 _
 obtain rfl:=amp q0
 have body:=pW 0 p.N bv ov cap cd al (p.m.map fun x=>(x,1)) (p.l.map fun x=>(x,1)) (by rw[hlen];exact h2) (by rw[hdlen];exact h3) w l1 p1 (by rw[hdlen];exact hl0)
 rw[hlen,hdlen,Ct]at body
 refine(callsIn_wide.1 body).mono ?_
 rintro en w' ⟨rfl,hB⟩
 have hK:=dV (p:=oI p ⟨p.m.length / 2+1≤(p.m.filter fun x=>decide (x∈p.l)).length⟩) Iff.rfl (aV hk ⟨_⟩)
 refine hr _ _ _ E ρ w' _ hK hE (MLe.refl _) (fun _ _ _ h=>h) (hs.ext hB) ?_
 simp only[den,aJ,gJ]
noncomputable def DD:NN:=bY AY HI [(0,15),(1,23)]
end Go.Proofs.Tryz
namespace Go.Proofs.YtjhpjjbnojbikaaGreat
open Go Go.RowKit Go.Sy
attribute [local go_sem] Oper.semAt_some
open Go.Eng hiding aj
theorem pL {F:Fence} {n:Nat} {P:Program} (w:World) {ops:Array Oper} {rest:List Oper} {o:Oper} {a:Act} {Q:Exit→Act→World→Prop} (hgd:o.guard=none) (s x:Operand) (t tn:TypeId)
  (ho:o.op= .call {callee:=.builtin .append,args:= #[s,x],argTypes:= #[t,tn]}) (vs vx:Value) (hs:a.eval s=vs) (hx:a.eval x=vx)
  (v':Value) (w':World) (hr:(Builtin.append_ #[t,tn] o.type #[vs,vx]).run P w= .ok v' w') (h:wpListIn F n P ops Q rest (a.put o.dst v') w'):wpListIn F n P ops Q (o::rest) a w:=by
 refine wpListIn_plain hgd fun K hK'=> ?_
 unfold Oper.wpIn
 refine⟨?_,?_⟩
 ·simp[Oper.about,ho,resolve,Target.leads,Sem.run_pure]
 ·rw[Oper.semAt_plain F _ _ (by rw[ho];intro c hc';cases hc')]
  simp[execOp,ho,resolve,invoke,builtin,hs,hx,hr,Result.andThen]
  exact hK' _ _ h
theorem GZ {cs:Array Value} {n c:Nat} (h:cs.size=2) (hc:n≤c):(Builtin.zeroCells cs n++Builtin.zeroCells cs (c - n)).size=c*2:=by
 simp[Builtin.zeroCells,h]
 omega
theorem Dg (w:World) (o:Obj):(w.alloc o).drew.heap[w.heap.size]?=some o:=by
 show(w.heap.push o)[w.heap.size]?=some o
 simp
theorem Dh (w:World) (o:Obj):Below w.heap.size w (w.alloc o).drew:=⟨rfl,rfl,rfl,by
 show _≤(w.heap.push o).size
 simp,fun k hk=>by
 show(w.heap.push o)[k]?=_
 rw[Array.getElem?_push,if_neg (by omega)]⟩
theorem FP (w:World):CallsIn Fence.wide 3 Tryz.prog 156 #[.slice none 0 0,.int .i64 0] w fun e W'=>e= .returned (.slice none 0 0)∧W'=w:=by
 refine callsIn_of_wp Tryz.func156 rfl trivial ?_ rfl
 simp only[Tryz.ntmps156,List.size_toArray,al3,al5,Nat.reduceAdd,Nat.reduceSub,Array.replicate_succ,Array.replicate_zero,List.push_toArray,List.append_toArray,amc,ama]
 gi_wp2
 refine bodyPost_ret (results_tmp rfl _ _ _) rfl ?_
 exact⟨rfl,rfl⟩
set_option maxRecDepth 100000 in
set_option maxHeartbeats 1000000 in
theorem Ca (n:Nat) (h0:0<n) (hn:n≤1000) (w:World):CallsIn Fence.wide 3 Tryz.prog 156 #[.slice none 0 0,.int .i64 n] w fun e W'=>∃cap cur,e= .returned (.slice (some ⟨w.heap.size,0,none⟩) 0 cap)∧cur.size=cap*2∧cap≤maxLen∧W'.heap[w.heap.size]?=some (.cells cur 52 (0,0))∧Below w.heap.size w W':=by
 obtain⟨i0,z,hi,hz0,hz1,hz2,hz3,hz4⟩:=fH (P:=Tryz.prog) (E:=52) (size:=2) (bytes:=4) (by kernel_rfl)
 have hb:n*i0.bytes≤281474976710656:=by rw[hz3];omega
 refine callsIn_of_wp Tryz.func156 rfl trivial ?_ rfl
 simp only[Tryz.ntmps156,List.size_toArray,al3,al5,Nat.reduceAdd,Nat.reduceSub,Array.replicate_succ,Array.replicate_zero,List.push_toArray,List.append_toArray,amc,ama]
 have hr:=Lib.run_append_nil_zeros (P:=Tryz.prog) w 43 3 43 52 i0 z .i64 .i64 Tryz.underlying43 Tryz.underlying3 hi hz0 n h0 (by omega) (by omega) hb
 have hc1:=grownCap_ge w n 0 52
 have hc2:=grownCap_le_maxLen w n 0 52 (by have:maxLen=9223372036854775807:=rfl;omega)
 gi_wp2_with (gi_at_builtin;refine pL _ rfl _ _ 43 3 rfl _ _ rfl rfl _ _ hr ?_)
 all_goals refine bodyPost_ret (results_tmp rfl _ _ _) rfl ⟨_,_,rfl,?_,hc2,Dg _ _,Dh _ _⟩
 ·exact GZ hz2 hc1
 ·rename_i hno
  exfalso
  cases z<;>first|exact hno _ rfl|(simp[Value.cells]at hz2;done)
end Go.Proofs.YtjhpjjbnojbikaaGreat
namespace Go.Proofs.YtjhpjjbnojbikaaGreat
open Go Go.RowKit Go.Eng Go.Sy
set_option linter.unusedVariables false
theorem aew (a b:Nat) (hb:b<256):a*256|||b=a*256+b:=by
 have:=Nat.shiftLeft_add_eq_or_of_lt (b:=b) (i:=8) (by simpa using hb) a
 rw[Nat.shiftLeft_eq]at this
 simpa using this.symm
theorem Ev {r n:Int} (hr0:0≤r) (hr1:r<4294967296) (hn0:0≤n) (hn1:n<256):bits BinOp.or IntKind.u64 (r*256) n=r*256+n:=by
 obtain⟨a,rfl⟩:=Int.eq_ofNat_of_zero_le hr0
 obtain⟨b,rfl⟩:=Int.eq_ofNat_of_zero_le hn0
 have h1:((a:Int)*256)=((a*256:Nat):Int):=by omega
 unfold bits
 simp only[h1]
 show IntKind.u64.wrap ((BitVec.ofInt 64 ((a*256:Nat):Int)|||BitVec.ofInt 64 (b:Int)).toNat)=_
 rw[BitVec.ofInt_natCast,BitVec.ofInt_natCast,BitVec.toNat_or,BitVec.toNat_ofNat,BitVec.toNat_ofNat,Nat.mod_eq_of_lt (by omega),Nat.mod_eq_of_lt (by omega),aew a b (by omega)]
 have h2:gX 4 ((a*256+b:Nat):Int):=by simp only[gX];omega
 simp only[IntKind.wrap,IntKind.bits,IntKind.signed]
 simp
 omega
set_option maxRecDepth 100000 in
set_option maxHeartbeats 1000000 in
theorem yV (r n:Int) (hr0:0≤r) (hr1:r<4294967296) (hn0:0≤n) (hn1:n<256) (w:World):CallsIn Fence.wide 3 Tryz.prog 101 #[.int .u32 r,.int .u8 n] w fun e W'=>e= .returned (.int .u64 (r*256+n))∧W'=w:=by
 refine callsIn_of_wp Tryz.func101 rfl trivial ?_ rfl
 simp only[Tryz.ntmps101,List.size_toArray,al3,al5,Nat.reduceAdd,Nat.reduceSub,Array.replicate_succ,Array.replicate_zero,List.push_toArray,List.append_toArray,amc,ama]
 gi_wp2
 rw[Ev hr0 hr1 hn0 hn1]
 refine bodyPost_ret (results_tmp rfl _ _ _) rfl ?_
 exact⟨rfl,rfl⟩
theorem Ar (b:Int) (hb0:0≤b) (hb1:b<18446744073709551616) (w:World):CallsIn Fence.wide 3 Tryz.prog 114 #[.int .u64 b] w fun e W'=>e= .returned (.int .u32 (b / 256 % 4294967296))∧W'=w:=by
 refine callsIn_of_wp Tryz.func114 rfl trivial ?_ rfl
 simp only[Tryz.ntmps114,List.size_toArray,al3,al5,Nat.reduceAdd,Nat.reduceSub,Array.replicate_succ,Array.replicate_zero,List.push_toArray,List.append_toArray,amc,ama]
 gi_wp2
 refine bodyPost_ret (results_tmp rfl _ _ _) rfl ?_
 exact⟨rfl,rfl⟩
end Go.Proofs.YtjhpjjbnojbikaaGreat
namespace Go.Proofs.Tryz
open Go.Proofs.YtjhpjjbnojbikaaGreat (Procs pt tq kU pW Jp Keep pj FP Ca)
open Go Go.RowKit Go.Sy
open Go.Eng hiding aj
set_option maxRecDepth 1000000
set_option linter.unusedVariables false
set_option maxHeartbeats 4000000
attribute [local irreducible] aq
def NL (l:List Int):Prop:=l.Nodup∧∀x∈l,0≤x∧x<8
theorem AO:∀(n:Nat) {l:List Int},l.Nodup→(∀x∈l,0≤x∧x<(n:Int))→l.length≤n
 |0,l,_,h=>by
  cases l with
  |nil=>exact amj _
  |cons x l=>have:=h x (by simp);omega
 |n+1,l,hd,h=>by
  by_cases hm:(n:Int)∈l
  ·have h1:=AO n (l:=l.erase n) (hd.erase _) fun x hx=>by
    have h2:=(hd.mem_erase_iff).1 hx
    have h3:=h x h2.2
    have h4:=h2.1
    omega
   rw[List.length_erase_of_mem hm]at h1
   omega
  ·have h1:=AO n hd fun x hx=>by
    have h3:=h x hx
    have h4:x≠n:=fun e=>hm (e▸hx)
    omega
   omega
theorem ah {l:List Int} (h:NL l):l.length≤8:=AO 8 h.1 h.2
theorem Uc {l:List Int} (h:NL l) {i:Nat} {x:Int} (hx:l[i]?=some x):0≤x∧x<8:=h.2 x (al7 hx)
theorem wx {l:List Int} (h:l.Nodup) {i:Nat} {x:Int} (hx:l[i]?=some x):¬x∈l.take i:=fun hm=>by
 have hi:=(List.getElem?_eq_some_iff.1 hx).1
 have hv:=(List.getElem?_eq_some_iff.1 hx).2
 have e:l=l.take i++l.drop i:=(List.take_append_drop i l).symm
 rw[e]at h
 exact(List.nodup_append.1 h).2.2 x hm x (by rw[←hv,List.drop_eq_getElem_cons hi];exact List.mem_cons_self) rfl
def eg (l:List Int) (x:Int):List Int:=if x∈l then l else l++[x]
def jJ (m drop add:List Int):Option (List Int):=
 let l:=add.foldl eg (m.filter (fun x=>decide (¬x∈drop)))
 if m.length / 2+1≤(m.filter (fun x=>decide (x∈l))).length then some l else none
def bK (m susp joins going:List Int):List Int:=match jJ m (susp++going) joins with
 |some l=>l
 |none=>match jJ m [] joins with
  |some l=>l
  |none=>m
theorem wu {l:List Int} {x:Int} (h:NL l) (hx:0≤x∧x<8):NL (eg l x):=by
 unfold eg
 split
 ·exact h
 ·rename_i hn
  refine⟨List.nodup_append.2 ⟨h.1,by simp,fun a ha b hb e=> ?_⟩,fun y hy=> ?_⟩
  ·simp only[List.mem_singleton]at hb
   subst hb;subst e;exact hn ha
  ·rcases amh.1 hy with hy|hy
   ·exact h.2 y hy
   ·simp only[List.mem_singleton]at hy
    subst hy;exact hx
theorem ry {add:List Int}:∀{l:List Int},NL l→(∀x∈add,0≤x∧x<8)→NL (add.foldl eg l):=by
 induction add with
 |nil=>exact fun h _=>h
 |cons x add ih=>exact fun h ha=>ih (wu h (ha x (by simp))) fun y hy=>ha y (by simp[hy])
theorem iz {l:List Int} {f:Int→Bool} (h:NL l):NL (l.filter f):=⟨h.1.filter _,fun x hx=>h.2 x (List.mem_filter.1 hx).1⟩
theorem IU {α β:Type} {f:β→α→β} {l:List α} {i:Nat} {x:α} {b:β} (h:l[i]?=some x):f ((l.take i).foldl f b) x=(l.take (i+1)).foldl f b:=by
 rw[List.take_add_one,h,List.foldl_append];rfl
structure rS where
 z:Int
noncomputable def iF (p:rS):IE:=([.nilS,.sy (.int 0 p.z)],.leaf,0)
noncomputable def mP (p:rS) (K:KE):Bool:=K (.sy (.prow 0 0)) (.node .leaf (some (aE ([]:List Int))) .leaf) 1
def mL (p:rS):Prop:=0≤p.z∧p.z≤1000
theorem aab {s:IE} {K:KE} (w:rS) (e:∀t,iF w=t→s=t:=by first|(intro t h;dsimp only[iF]at h;subst h;exact rfl)|fail) (g:mL w:=by first|((try dsimp only[mL,oL,oN,Int.reduceNegSucc]);first|done|exact yg|trivial|assumption|omega|(constructor<;>omega))|fail) (h:mP w K=true):Cl s iF mL mP K:=wS w e g h
theorem OS:aA Tryz.prog 156 0 (fY iF (jO mL mP)):=by
 intro us xs E ρ G F M nx w K R hE hs hd hk0 hr
 obtain⟨p,hk1⟩:=bk hk0
 obtain⟨e,hk2⟩:=ai hk1
 obtain⟨hpre,hk⟩:=ai hk2
 clear hk0 hk1 hk2
 have e1:us=(iF p).1:=congrArg Prod.fst e
 have e2:M=(iF p).2.1:=congrArg (fun x=>x.2.1) e
 have e3:nx=(iF p).2.2:=congrArg (fun x=>x.2.2) e
 clear e
 subst e1;subst e2;subst e3
 obtain⟨h1,h2⟩:=hpre
 obtain⟨x0,ys,q0,q1,rfl⟩:=bf hd
 obtain⟨x1,ys2,q2,q3,rfl⟩:=bf q1
 obtain rfl:ys2=[]:=by simpa[ay] using q3.symm
 obtain rfl:x0= .slice none 0 0:=amp (q0.symm.trans rfl)
 obtain rfl:x1= .int .i64 p.z:=amp (q2.symm.trans rfl)
 obtain⟨n,hn⟩:=Int.eq_ofNat_of_zero_le h1
 rw[hn]
 have hk:T.set aP (iF p).2.1 0 (some (aE [])) (fun M'=>K (.sy (.prow 0 ([]:List Int).length)) M' (0+1))=true:=hk
 rcases Nat.eq_zero_or_pos n with h0|h0
 ·subst h0
  refine(callsIn_wide.1 (FP w)).mono ?_
  rintro en w' ⟨rfl,rfl⟩
  exact vZ hs hE hr ⟨rfl,.inl ⟨rfl,rfl⟩⟩ (Below.refl _ _) hk
 ·refine(callsIn_wide.1 (Ca n h0 (by omega) w)).mono ?_
  rintro en w' ⟨cap,cur,rfl,r1,r2,r3,hB⟩
  exact vZ hs hE hr ⟨rfl,.inr ⟨_,_,_,rfl,amj _,r3,Nat.zero_le _,r2,r1,rfl⟩⟩ hB hk
noncomputable def qo:NN:=bY DD OS [(0,8),(1,20)]
noncomputable def bd_l_vright':NV (df [] [] [] 0x72d62fd0182039feab9eabb24800ec00d0b2358b0f82e79c28c345b9ea2e06097f7fb58cd963055c6a0347f9dfbfc03c78a9571e64683aeafe38e7512d54a05db24acee7c9505):=⟨_,by conv=>rhs;reduce⟩
noncomputable abbrev sI:XC:=bd_l_vright'.1
noncomputable def ft_vright':NV (fun b0=>aB [] [] [b0] 0x2e23cd444dee8140396f1ba419bc1150cc44206e2ccc1eec8787c3192182caea88a3455c5ede9142c34acbf2ed046d2193c4ad1e8540482520a176589d178b6145de78853496fed514ee4c9):=⟨_,by conv=>rhs;reduce⟩
noncomputable abbrev LI:XF:=ft_vright'.1 sI
theorem Cc:aK Tryz.prog 58 LI=true:=by kernel_rfl
structure vS where
 N:Int
 mh:Value
 m:List Int
 b0:Prop
 b1:Prop
 b2:Prop
 b3:Prop
 b4:Prop
 b5:Prop
 b6:Prop
 b7:Prop
 i:Int
noncomputable def KX:bN:=cq bT 0 (fun p:vS=>((.cons 29 (.sy (.int 0 p.i)) (.cons 28 (.sy (.int 0 (p.m.length:Int))) (.cons 27 (.sy (.imm p.mh 2 Int p.m am)) (.cons 3 (.ptr 0 0) .nil)))),(.node .leaf (some (o_F p.b0 p.b1 p.b2 p.b3 p.b4 p.b5 p.b6 p.b7)) .leaf),1)) (fun p=>NL p.m∧¬p.m=[]∧¬p.N=0∧0≤p.i∧p.i≤(p.m.length:Int)∧(p.b0↔(0:Int)∈p.m.take p.i.toNat)∧(p.b1↔(1:Int)∈p.m.take p.i.toNat)∧(p.b2↔(2:Int)∈p.m.take p.i.toNat)∧(p.b3↔(3:Int)∈p.m.take p.i.toNat)∧(p.b4↔(4:Int)∈p.m.take p.i.toNat)∧(p.b5↔(5:Int)∈p.m.take p.i.toNat)∧(p.b6↔(6:Int)∈p.m.take p.i.toNat)∧(p.b7↔(7:Int)∈p.m.take p.i.toNat)) (fun p K=>K 2 .nil .leaf 0)
theorem DI:bj Tryz.prog 46 0 KX true 0 sI:=lL (nat:=qo) (fun p:vS=>((p.m.length:Int) - p.i).toNat) cy (fun _ _ _ _=>rfl) fun p K hpre hK=>by
 dsimp only at hpre hK ⊢
 obtain⟨h0,h1,h2,g1,g2,g3⟩:=hpre
 have hl:=ah h0
 have ys {g:Prop} (h:g:=by first|(have hx:=Uc h0 hi;omega)|fail):g:=h
 have yd {g:Prop} (h:g:=by first|(exfalso;have hn:=wx h0.1 hi;simp_all;done)|fail):g:=h
 have yb {g:Prop} (h:g:=by first|(refine⟨h0,h1,h2,by omega,by omega,?_⟩;rw[show(p.i+1).toNat=p.i.toNat+1 by omega];rw[List.take_add_one,hi];simp only[Option.toList,amh,List.mem_singleton,g3];simp_all)|fail):g:=h
 have yq {g:Prop} (h:g:=by first|(exact jM (.mk p.N ..))|fail):g:=h
 exact wz
structure Sr where
 N:Int
 mh:Value
 m:List Int
theorem Ku:aA Tryz.prog 58 0 (aO (fun p:Sr=>([lU p.N p.mh p.m],.leaf,0)) (fun p=>NL p.m∧¬p.m=[]∧¬p.N=0) (fun p K=>K (.bool true) .leaf 0)):=nF (nat:=qo) Cc (dB DI) fun p K hpre hK=>by
 dsimp only at hpre hK ⊢
 obtain⟨h0,h1,h2⟩:=hpre
 have hl:=ah h0
 have hm:=List.length_pos_iff.2 h1
 have yd {g:Prop} (h:g:=by first|(exfalso;omega)|fail):g:=h
 have yg {g:Prop} (h:g:=by first|(exact⟨h0,h1,h2,by omega,by omega,by simp⟩)|fail):g:=h
 have yq {g:Prop} (h:g:=by first|(refine cb (.mk p.N ..) (h:= ?_);exact wo)|fail):g:=h
 exact wz
noncomputable def oP:NN:=bY qo Ku [(0,15)]
end Go.Proofs.Tryz
namespace Go.Proofs.Tryz
open Go Go.RowKit Go.Sy
open Go.Eng hiding aj
set_option maxRecDepth 1000000
set_option linter.unusedVariables false
set_option maxHeartbeats 4000000
attribute [local irreducible] aq
theorem JG {l:List Int} {x z:Int} (h: -1≤z∧(z= -1→∀y∈l,¬y=x)∧(¬z= -1→0≤z∧z<(l.length:Int)∧(∀y∈l.take z.toNat,¬y=x)∧∀y,l[z.toNat]?=some y→y=x)) (hz:z<0):l++[x]=eg l x:=by
 unfold eg
 rw[if_neg fun hx=>h.2.1 (by omega) x hx rfl]
theorem ab5 {l:List Int} {x z:Int} (h: -1≤z∧(z= -1→∀y∈l,¬y=x)∧(¬z= -1→0≤z∧z<(l.length:Int)∧(∀y∈l.take z.toNat,¬y=x)∧∀y,l[z.toNat]?=some y→y=x)) (hz:¬z<0):l.set z.toNat x=eg l x:=by
 obtain⟨h1,h2,_,h4⟩:=h.2.2 (by omega)
 have hlt:z.toNat<l.length:=by omega
 have hx:l[z.toNat]?=some l[z.toNat]:=List.getElem?_eq_getElem hlt
 have e:=h4 _ hx
 unfold eg
 rw[if_pos (by rw[←e];exact List.getElem_mem hlt),←e,List.set_getElem_self]
noncomputable def bd_l_xfeq179':NV (df [] [] [] 0x50ab8f873d22b07a9d163dc7c67e772e93a0f6e95c914018b9cd40d2ea716d7a32b8525c234fc613):=⟨_,by conv=>rhs;reduce⟩
noncomputable abbrev mz:XC:=bd_l_xfeq179'.1
noncomputable def ft_xfeq179':NV (fun b0=>aB [] [] [b0] 0x25264c4bbb3eb03f5a044a970470f790b5f9bd9fe1fe):=⟨_,by conv=>rhs;reduce⟩
noncomputable abbrev Im:XF:=ft_xfeq179'.1 mz
theorem zg:aK Tryz.prog 112 Im=true:=by kernel_rfl
structure sK where
 l:List Int
 y:Int
 i:Int
structure Dm where
 z:Int
noncomputable def HU:bN:=cq bT 0 (fun p:sK=>((.cons 8 (.sy (.int 0 p.i)) (.cons 7 (.sy (.int 0 (p.l.length:Int))) (.cons 1 (.fn 179 [.ptr 1 0]) (.cons 0 (.sy (.prow 0 p.l.length)) .nil)))),(.node (.node .leaf (some (iU p.y)) .leaf) (some (aE p.l)) .leaf),2)) (fun p=>p.l.length≤1000000∧0≤p.i∧p.i≤(p.l.length:Int)∧(∀x∈p.l.take p.i.toNat,¬(x=p.y))) (fun p K=>ae (iP (∀x∈p.l,¬(x=p.y)) (K 2 .nil (.node (.node .leaf (some (iU p.y)) .leaf) (some (aE p.l)) .leaf) 2) true) (aj fun r:Dm=>iP (0≤r.z∧r.z<(p.l.length:Int)∧(∀x∈p.l.take r.z.toNat,¬(x=p.y))∧∀x,p.l[r.z.toNat]?=some x→x=p.y) (K 1 (.cons 4 (.sy (.int 0 r.z)) .nil) (.node (.node .leaf (some (iU p.y)) .leaf) (some (aE p.l)) .leaf) 2) true))
theorem BE:bj Tryz.prog 19 2 HU true 0 mz:=lL (nat:=oP) (fun p:sK=>((p.l.length:Int) - p.i).toNat) cy (fun _ _ _ _=>rfl) fun p K hpre hK=>by
 dsimp only at hpre hK ⊢
 obtain⟨hK0,hKr0⟩:=ac hK
 have hK1:=hKr0
 obtain⟨g0,g1,g2,g3⟩:=hpre
 have nnx:=trivial
 have yp {g:Prop} (h:g:=by first|(rw[List.take_of_length_le (by omega)]at g3;exact g3)|(have hD:x1=p.y:=(by first|assumption|(simp_all;done)|(intro hq;simp_all;done)|(intro hq;exact(by assumption:∀y:Int,y∈p.gt→¬x1=y) _ hq rfl));exact⟨g1,by omega,g3,fun x hx=>by rw[hi]at hx;injection hx with hx;subst hx;exact hD⟩)|fail):g:=h
 have yb {g:Prop} (h:g:=by first|(refine⟨g0,by omega,by omega,?_⟩;rw[show(p.i+1).toNat=p.i.toNat+1 by omega,List.take_add_one,hi];have hD:¬(x1=p.y):=(by first|assumption|(simp_all;done)|(intro hq;simp_all;done)|(intro hq;exact(by assumption:∀y:Int,y∈p.gt→¬x1=y) _ hq rfl));intro x hx;rcases amh.1 hx with hx|hx;exact g3 x hx;simp only[Option.toList,List.mem_singleton]at hx;subst hx;exact hD)|fail):g:=h
 exact wz
structure Nn where
 l:List Int
 y:Int
structure MU where
 z:Int
theorem HC:aA Tryz.prog 112 2 (aO (fun p:Nn=>([.sy (.prow 0 p.l.length),.fn 179 [.ptr 1 0]],(.node (.node .leaf (some (iU p.y)) .leaf) (some (aE p.l)) .leaf),2)) (fun p=>p.l.length≤1000000) (fun p K=>aj fun r:MU=>iP (-1≤r.z∧(r.z= -1→∀x∈p.l,¬(x=p.y))∧(¬r.z= -1→0≤r.z∧r.z<(p.l.length:Int)∧(∀x∈p.l.take r.z.toNat,¬(x=p.y))∧∀x,p.l[r.z.toNat]?=some x→x=p.y)) (K (.sy (.int 0 r.z)) (.node (.node .leaf (some (iU p.y)) .leaf) (some (aE p.l)) .leaf) 2) true)):=nF (nat:=oP) zg (dB BE) fun p K hpre hK=>by
 dsimp only at hpre hK ⊢
 have h1:=hpre
 have yg {g:Prop} (h:g:=by first|(exact⟨h1,by omega,by omega,by simp⟩)|fail):g:=h
 have yp {g:Prop} (h:g:=by first|(first|exact⟨by decide,fun _=>by assumption,fun h=>absurd rfl h⟩|exact⟨by omega,fun h=>by omega,fun _=>by assumption⟩)|fail):g:=h
 exact wz
noncomputable def nM:NN:=gj oP HC [(0,25),(1,13)] (fun us M=>Nat.beq (tP us 1) 179)
noncomputable abbrev qQ:XC:=mz
noncomputable def ft_xfeq113':NV (fun b0=>aB [] [] [b0] 0x25264c4bbb3eb03f5a044a970470f790b5f9bd9fe1fe):=⟨_,by conv=>rhs;reduce⟩
noncomputable abbrev Io:XF:=ft_xfeq113'.1 qQ
theorem zh:aK Tryz.prog 112 Io=true:=by kernel_rfl
structure sL where
 l:List Int
 y:Int
 i:Int
structure Dn where
 z:Int
noncomputable def HV:bN:=cq bT 0 (fun p:sL=>((.cons 8 (.sy (.int 0 p.i)) (.cons 7 (.sy (.int 0 (p.l.length:Int))) (.cons 1 (.fn 113 [.ptr 1 0]) (.cons 0 (.sy (.prow 0 p.l.length)) .nil)))),(.node (.node .leaf (some (iU p.y)) .leaf) (some (aE p.l)) .leaf),2)) (fun p=>p.l.length≤1000000∧0≤p.i∧p.i≤(p.l.length:Int)∧(∀x∈p.l.take p.i.toNat,¬(x=p.y))) (fun p K=>ae (iP (∀x∈p.l,¬(x=p.y)) (K 2 .nil (.node (.node .leaf (some (iU p.y)) .leaf) (some (aE p.l)) .leaf) 2) true) (aj fun r:Dn=>iP (0≤r.z∧r.z<(p.l.length:Int)∧(∀x∈p.l.take r.z.toNat,¬(x=p.y))∧∀x,p.l[r.z.toNat]?=some x→x=p.y) (K 1 (.cons 4 (.sy (.int 0 r.z)) .nil) (.node (.node .leaf (some (iU p.y)) .leaf) (some (aE p.l)) .leaf) 2) true))
theorem BF:bj Tryz.prog 19 2 HV true 0 qQ:=lL (nat:=nM) (fun p:sL=>((p.l.length:Int) - p.i).toNat) cy (fun _ _ _ _=>rfl) fun p K hpre hK=>by
 dsimp only at hpre hK ⊢
 obtain⟨hK0,hKr0⟩:=ac hK
 have hK1:=hKr0
 obtain⟨g0,g1,g2,g3⟩:=hpre
 have nnx:=trivial
 have yp {g:Prop} (h:g:=by first|(rw[List.take_of_length_le (by omega)]at g3;exact g3)|(have hD:x1=p.y:=(by first|assumption|(simp_all;done)|(intro hq;simp_all;done)|(intro hq;exact(by assumption:∀y:Int,y∈p.gt→¬x1=y) _ hq rfl));exact⟨g1,by omega,g3,fun x hx=>by rw[hi]at hx;injection hx with hx;subst hx;exact hD⟩)|fail):g:=h
 have yb {g:Prop} (h:g:=by first|(refine⟨g0,by omega,by omega,?_⟩;rw[show(p.i+1).toNat=p.i.toNat+1 by omega,List.take_add_one,hi];have hD:¬(x1=p.y):=(by first|assumption|(simp_all;done)|(intro hq;simp_all;done)|(intro hq;exact(by assumption:∀y:Int,y∈p.gt→¬x1=y) _ hq rfl));intro x hx;rcases amh.1 hx with hx|hx;exact g3 x hx;simp only[Option.toList,List.mem_singleton]at hx;subst hx;exact hD)|fail):g:=h
 exact wz
structure No where
 l:List Int
 y:Int
structure MV where
 z:Int
theorem HD:aA Tryz.prog 112 2 (aO (fun p:No=>([.sy (.prow 0 p.l.length),.fn 113 [.ptr 1 0]],(.node (.node .leaf (some (iU p.y)) .leaf) (some (aE p.l)) .leaf),2)) (fun p=>p.l.length≤1000000) (fun p K=>aj fun r:MV=>iP (-1≤r.z∧(r.z= -1→∀x∈p.l,¬(x=p.y))∧(¬r.z= -1→0≤r.z∧r.z<(p.l.length:Int)∧(∀x∈p.l.take r.z.toNat,¬(x=p.y))∧∀x,p.l[r.z.toNat]?=some x→x=p.y)) (K (.sy (.int 0 r.z)) (.node (.node .leaf (some (iU p.y)) .leaf) (some (aE p.l)) .leaf) 2) true)):=nF (nat:=nM) zh (dB BF) fun p K hpre hK=>by
 dsimp only at hpre hK ⊢
 have h1:=hpre
 have yg {g:Prop} (h:g:=by first|(exact⟨h1,by omega,by omega,by simp⟩)|fail):g:=h
 have yp {g:Prop} (h:g:=by first|(first|exact⟨by decide,fun _=>by assumption,fun h=>absurd rfl h⟩|exact⟨by omega,fun h=>by omega,fun _=>by assumption⟩)|fail):g:=h
 exact wz
noncomputable def sr:NN:=gj nM HD [(0,25),(1,13)] (fun us M=>Nat.beq (tP us 1) 113)
noncomputable def ft_take':NV (aB [] [] [] 0x32c23d7196043de4627c6207f22999511760e851769a43e35bb74d12549155b734743a820fc834ea6b292043dc622c10d3c93d7a1d72b8097aa6806fc):=⟨_,by conv=>rhs;reduce⟩
noncomputable abbrev YY:XF:=ft_take'.1
theorem Is:aK Tryz.prog 161 YY=true:=by kernel_rfl
structure aix where
 l:List Int
 x:Int
structure ahG where
 o:List Int
theorem Xc:aA Tryz.prog 161 0 (aO (fun p:aix=>([.sy (.prow 0 p.l.length),eL p.x],(.node .leaf (some (aE p.l)) .leaf),1)) (fun p=>p.l.length≤1000000∧0≤p.x∧p.x<8) (fun p K=>aj fun r:ahG=>iP (r.o=eg p.l p.x) (K (.sy (.prow 0 r.o.length)) (.node .leaf (some (aE r.o)) .leaf) 1) true)):=nE (nat:=sr) Is fun p K hpre hK=>by
 dsimp only at hpre hK ⊢
 obtain⟨h1,h2,h3⟩:=hpre
 have ys {g:Prop} (h:g:=by first|(simp[bR];omega;done)|((try rfl)<;>simp;done)|(first|omega|(constructor<;>omega)|(simp;omega);done)|fail):g:=h
 have yg {g:Prop} (h:g:=by first|(first|omega|assumption|exact⟨by omega,by omega⟩)|fail):g:=h
 have yp {g:Prop} (h:g:=by first|(first|(exfalso;omega)|exact JG (by assumption) (by omega)|exact ab5 (by assumption) (by omega))|fail):g:=h
 have yq {g:Prop} (h:g:=by first|(refine wX [_] (by first|exact sd|exact ys) ?_;exact wz)|(refine wX _ (by first|exact sd|exact ys) ?_;exact wz)|fail):g:=h
 exact wz
noncomputable def AR:NN:=bY sr Xc [(0,25),(1,15)]
noncomputable def ft_concat':NV (aB [] [] [] 0x12bf012a05fe91adf22bffd1249c16676421fa773037b99d0030e0a1f74c5e31d972b43be87508c3842e59002efc036899a7c005da935533686760f7cad2ae3795b606dec54949d453142dac9c4395faf904693f50b6776442982ac95c18c5f93e9ce55):=⟨_,by conv=>rhs;reduce⟩
noncomputable abbrev Mc:XF:=ft_concat'.1
theorem Cj:aK Tryz.prog 125 Mc=true:=by kernel_rfl
structure SJ where
 a:List Int
 b:List Int
structure Sa where
 h:Value
 o:List Int
theorem KI:aA Tryz.prog 125 3 (aO (fun p:SJ=>([.sl 0 0 2 (.ex 2)],(.node (.node .leaf (some (aE p.a)) .leaf) (some (.blk false 43 1 [[.sy (.prow 1 p.a.length)],[.sy (.prow 2 p.b.length)]])) (.node .leaf (some (aE p.b)) .leaf)),3)) (fun p=>p.a.length≤400∧p.b.length≤400) (fun p K=>aj fun r:Sa=>iP (r.o=p.a++p.b∧r.o.length=p.a.length+p.b.length) (K (.sy (.imm r.h 2 Int r.o am)) (.node (.node .leaf (some (aE p.a)) .leaf) (some (.blk false 43 1 [[.sy (.prow 1 p.a.length)],[.sy (.prow 2 p.b.length)]])) (.node .leaf (some (aE p.b)) .leaf)) 3) true)):=nE (nat:=AR) Cj fun p K hpre hK=>by
 dsimp only at hpre hK ⊢
 obtain⟨h1,h2⟩:=hpre
 have nnl:=trivial
 have ys {g:Prop} (h:g:=by first|(first|rfl|simp;done)|(simp[bR];omega;done)|fail):g:=h
 have yp {g:Prop} (h:g:=by first|(simp[*])|fail):g:=h
 have ye {g:Prop} (h:g:=by first|(exact cR hK (.mk _ [] ..))|fail):g:=h
 have yq {g:Prop} (h:g:=by first|(refine aab (.mk ..) (h:= ?_);dsimp only[mP];exact wo)|(refine wX p.b (by first|exact sd|exact ys) ?_;exact wz)|(refine wX p.a (by first|exact sd|exact ys) ?_;exact wz)|fail):g:=h
 exact wz
noncomputable def oS:NN:=bY AR KI [(0,5)]
noncomputable def bd_l_xifirst':NV (df [] [] [] 0x622627d89e78d282ef6f2e750a1905abfdf5083043d088dbcc79876611cdef718d7d816fe5a4cbf7):=⟨_,by conv=>rhs;reduce⟩
noncomputable abbrev qO:XC:=bd_l_xifirst'.1
noncomputable def ft_xifirst':NV (fun b0=>aB [] [] [b0] 0x2b99643552dd209fafada74adac221142507f150255d):=⟨_,by conv=>rhs;reduce⟩
noncomputable abbrev Ik:XF:=ft_xifirst'.1 qO
theorem zf:aK Tryz.prog 112 Ik=true:=by kernel_rfl
structure sJ where
 h:Value
 l:List Int
 q:Nat→Value
 mh:Value
 m:List Int
 me:Int
 susp:List Int
 going:List Int
 i:Int
structure Dl where
 z:Int
noncomputable def HT:bN:=cq bT 0 (fun p:sJ=>((.cons 8 (.sy (.int 0 p.i)) (.cons 7 (.sy (.int 0 (p.l.length:Int))) (.cons 1 (.fn 127 [.ptr 0 0]) (.cons 0 (.sy (.imm p.h 2 Int p.l am)) .nil)))),(.node (.node (.node .leaf (some (aE p.going)) .leaf) (some (AK p.q p.mh p.m p.me 2 p.susp.length 3 p.going.length)) .leaf) (some (mS 36 1)) (.node .leaf (some (aE p.susp)) .leaf)),4)) (fun p=>p.l.length≤1000000∧p.susp.length≤1000000∧p.going.length≤1000000∧0≤p.i∧p.i≤(p.l.length:Int)∧(∀x∈p.l.take p.i.toNat,¬(¬(x∈p.susp∨x∈p.going)))) (fun p K=>ae (iP (∀x∈p.l,¬(¬(x∈p.susp∨x∈p.going))) (K 2 .nil (.node (.node (.node .leaf (some (aE p.going)) .leaf) (some (AK p.q p.mh p.m p.me 2 p.susp.length 3 p.going.length)) .leaf) (some (mS 36 1)) (.node .leaf (some (aE p.susp)) .leaf)) 4) true) (aj fun r:Dl=>iP (0≤r.z∧r.z<(p.l.length:Int)∧(∀x∈p.l.take r.z.toNat,¬(¬(x∈p.susp∨x∈p.going)))∧∀x,p.l[r.z.toNat]?=some x→¬(x∈p.susp∨x∈p.going)) (K 1 (.cons 4 (.sy (.int 0 r.z)) .nil) (.node (.node (.node .leaf (some (aE p.going)) .leaf) (some (AK p.q p.mh p.m p.me 2 p.susp.length 3 p.going.length)) .leaf) (some (mS 36 1)) (.node .leaf (some (aE p.susp)) .leaf)) 4) true))
theorem BD:bj Tryz.prog 19 4 HT true 0 qO:=lL (nat:=oS) (fun p:sJ=>((p.l.length:Int) - p.i).toNat) cy (fun _ _ _ _=>rfl) fun p K hpre hK=>by
 dsimp only at hpre hK ⊢
 obtain⟨hK0,hKr0⟩:=ac hK
 have hK1:=hKr0
 obtain⟨g0,g00,g000,g1,g2,g3⟩:=hpre
 have nnx:=trivial
 have nnh:=trivial
 have nnq:=trivial
 have yp {g:Prop} (h:g:=by first|(rw[List.take_of_length_le (by omega)]at g3;exact g3)|(have hD:¬(x1∈p.susp∨x1∈p.going):=(by first|assumption|(simp_all;done)|(intro hq;simp_all;done)|(intro hq;exact(by assumption:∀y:Int,y∈p.gt→¬x1=y) _ hq rfl));exact⟨g1,by omega,g3,fun x hx=>by rw[hi1]at hx;injection hx with hx;subst hx;exact hD⟩)|fail):g:=h
 have yb {g:Prop} (h:g:=by first|(refine⟨g0,g00,g000,by omega,by omega,?_⟩;rw[show(p.i+1).toNat=p.i.toNat+1 by omega,List.take_add_one,hi1];have hD:¬(¬(x1∈p.susp∨x1∈p.going)):=(by first|assumption|(simp_all;done)|(intro hq;simp_all;done)|(intro hq;exact(by assumption:∀y:Int,y∈p.gt→¬x1=y) _ hq rfl));intro x hx;rcases amh.1 hx with hx|hx;exact g3 x hx;simp only[Option.toList,List.mem_singleton]at hx;subst hx;exact hD)|fail):g:=h
 exact wz
structure Nm where
 h:Value
 l:List Int
 q:Nat→Value
 mh:Value
 m:List Int
 me:Int
 susp:List Int
 going:List Int
structure MT where
 z:Int
theorem HB:aA Tryz.prog 112 4 (aO (fun p:Nm=>([.sy (.imm p.h 2 Int p.l am),.fn 127 [.ptr 0 0]],(.node (.node (.node .leaf (some (aE p.going)) .leaf) (some (AK p.q p.mh p.m p.me 2 p.susp.length 3 p.going.length)) .leaf) (some (mS 36 1)) (.node .leaf (some (aE p.susp)) .leaf)),4)) (fun p=>p.l.length≤1000000∧p.susp.length≤1000000∧p.going.length≤1000000) (fun p K=>aj fun r:MT=>iP (-1≤r.z∧(r.z<0→∀x∈p.l,¬(¬(x∈p.susp∨x∈p.going)))∧(0≤r.z→0≤r.z∧r.z<(p.l.length:Int)∧(∀x∈p.l.take r.z.toNat,¬(¬(x∈p.susp∨x∈p.going)))∧∀x,p.l[r.z.toNat]?=some x→¬(x∈p.susp∨x∈p.going))) (K (.sy (.int 0 r.z)) (.node (.node (.node .leaf (some (aE p.going)) .leaf) (some (AK p.q p.mh p.m p.me 2 p.susp.length 3 p.going.length)) .leaf) (some (mS 36 1)) (.node .leaf (some (aE p.susp)) .leaf)) 4) true)):=nF (nat:=oS) zf (dB BD) fun p K hpre hK=>by
 dsimp only at hpre hK ⊢
 obtain⟨h1,h2,h3⟩:=hpre
 have yg {g:Prop} (h:g:=by first|(exact⟨h1,h2,h3,by omega,by omega,by simp⟩)|fail):g:=h
 have yp {g:Prop} (h:g:=by first|(first|exact⟨by decide,fun _=>by assumption,fun h=>absurd h (by decide)⟩|exact⟨by omega,fun h=>by omega,fun _=>by assumption⟩)|fail):g:=h
 exact wz
noncomputable def nL:NN:=bY oS HB [(0,23),(1,13)]
theorem aeI {m d add o:List Int} (h8:∀x∈add,0≤x∧x<8) (hm:NL m) (ho:o=add.foldl eg (m.filter (fun x=>decide (¬x∈d)))∧o.length≤8) (hq:¬¬m.length / 2+1≤(m.filter (fun x=>decide (x∈o))).length):jJ m d add=some o∧NL o:=by
 obtain⟨ho,_⟩:=ho
 subst ho
 refine⟨?_,ry (iz hm) h8⟩
 unfold jJ
 rw[if_pos (Classical.not_not.1 hq)]
theorem ajy {m d add o:List Int} (ho:o=add.foldl eg (m.filter (fun x=>decide (¬x∈d)))∧o.length≤8) (hq:¬m.length / 2+1≤(m.filter (fun x=>decide (x∈o))).length):jJ m d add=none:=by
 obtain⟨ho,_⟩:=ho
 subst ho
 unfold jJ
 rw[if_neg hq]
noncomputable def bd_l_next':NV (df [] [] [] 0x7a6d9c9cf6c316e92fc93dfb811881b2904980142ea029c5335ac89c89576ce72c04bf10991e73eb0):=⟨_,by conv=>rhs;reduce⟩
noncomputable abbrev yQ:XC:=bd_l_next'.1
noncomputable def ft_next':NV (fun b0=>aB [] [] [b0] 0x7e6c40e9986dff145137b50a1921a07ec75f0d024ecd0beadad7ac896b3e751c4780a04d39c864566807bf60d2ee342b3385bcc683137dd80c107bf5073627839a88d738fa3caab0f00ab677f46c8df922444202225c21b1b8bc7670771f0aa2684ddc39e6799da9416e81907458b69f61cc45d1351daafe47cfa72fa0ab9b6bd988e65073ea2ee0032582a72c191789782bef219b29b811ee):=⟨_,by conv=>rhs;reduce⟩
noncomputable abbrev Ze:XF:=ft_next'.1 yQ
theorem IA:aK Tryz.prog 126 Ze=true:=by kernel_rfl
structure Dw where
 N:Int
 mh:Value
 m:List Int
 dh:Value
 d:List Int
 add:List Int
 o:List Int
 i:Int
structure RE where
 o:List Int
noncomputable def Yk:bN:=cq bT 0 (fun p:Dw=>((.cons 30 (.sy (.int 0 p.i)) (.cons 29 (.sy (.int 0 (p.add.length:Int))) (.cons 28 (.sy (.prow 0 p.add.length)) (.cons 9 (.sy (.prow 3 p.o.length)) (.cons 6 (.ptr 2 0) (.cons 3 (.ptr 1 0) .nil)))))),(.node (.node (.node .leaf (some (aE p.o)) .leaf) (some (da p.N p.mh p.m)) .leaf) (some (aE p.add)) (.node .leaf (some (.blk false 45 3 [[.int 1 (.ofNat 0),.int 3 (.ofNat 0),.nilS]])) .leaf)),4)) (fun p=>NL p.m∧¬p.m=[]∧¬p.N=0∧p.N<4294967295∧0≤p.N∧p.d.length≤1000∧p.add.length≤1000∧(∀x∈p.add,0≤x∧x<8)∧NL (p.m.filter (fun x=>decide (¬x∈p.d)))∧0≤p.i∧p.i≤(p.add.length:Int)∧p.o=(p.add.take p.i.toNat).foldl eg (p.m.filter (fun x=>decide (¬x∈p.d)))) (fun p K=>aj fun r:RE=>iP (r.o=p.add.foldl eg (p.m.filter (fun x=>decide (¬x∈p.d)))∧r.o.length≤8) (K 3 (.cons 9 (.sy (.prow 3 r.o.length)) (.cons 6 (.ptr 2 0) (.cons 3 (.ptr 1 0) .nil))) (.node (.node (.node .leaf (some (aE r.o)) .leaf) (some (da p.N p.mh p.m)) .leaf) (some (aE p.add)) (.node .leaf (some (.blk false 45 3 [[.int 1 (.ofNat 0),.int 3 (.ofNat 0),.nilS]])) .leaf)) 4) true)
theorem La:bj Tryz.prog 56 1 Yk true 0 yQ:=lL (nat:=nL) (fun p:Dw=>((p.add.length:Int) - p.i).toNat) cy (fun _ _ _ _=>rfl) fun p K hpre hK=>by
 dsimp only at hpre hK ⊢
 obtain⟨h1,h2,h3,h4,h5,h6,h7,h8,g0,g1,g2,g3⟩:=hpre
 have hol:=ah (ry (l:=p.m.filter (fun x=>decide (¬x∈p.d))) (add:=p.add.take p.i.toNat) g0 (fun x hx=>h8 x (List.mem_of_mem_take hx)))
 rw[←g3]at hol
 have nnh:=trivial
 have yg {g:Prop} (h:g:=by first|(first|assumption|(refine⟨?_,?_,?_⟩<;>first|omega|(have hx:=h8 _ (al7 hi);omega)))|fail):g:=h
 have yp {g:Prop} (h:g:=by first|(have e:p.o=p.add.foldl eg (p.m.filter (fun x=>decide (¬x∈p.d))):=(by rw[g3,List.take_of_length_le (by omega)]);exact⟨e,by rw[e];exact ah (ry g0 h8)⟩)|fail):g:=h
 have yb {g:Prop} (h:g:=by first|(refine⟨h1,h2,h3,h4,h5,h6,h7,h8,g0,by omega,by omega,?_⟩;rw[show(p.i+1).toNat=p.i.toNat+1 by omega,hi,g3];exact IU hi1)|fail):g:=h
 have yq {g:Prop} (h:g:=by first|(exact jM (.mk _ _ _ p.dh p.d ..))|fail):g:=h
 exact wz
structure aiE where
 N:Int
 mh:Value
 m:List Int
 dh:Value
 d:List Int
 add:List Int
structure ahP where
 nn:Int
 h:Value
 o:List Int
theorem Xi:aA Tryz.prog 126 1 (aO (fun p:aiE=>([(lU p.N p.mh p.m),.sy (.imm p.dh 2 Int p.d am),.sy (.prow 0 p.add.length)],(.node .leaf (some (aE p.add)) .leaf),1)) (fun p=>NL p.m∧¬p.m=[]∧¬p.N=0∧p.N<4294967295∧0≤p.N∧p.d.length≤1000∧p.add.length≤1000∧(∀x∈p.add,0≤x∧x<8)) (fun p K=>ae (aj fun r:ahP=>iP (jJ p.m p.d p.add=some r.o∧NL r.o) (K (.tup [(lU r.nn r.h r.o),.int 0 (.ofNat 0)]) (.node .leaf (some (aE p.add)) .leaf) 1) true) (iP (jJ p.m p.d p.add=none) (K (.tup [.agg [.int 1 (.ofNat 0),.int 3 (.ofNat 0),.nilS],.int 0 (.ofNat 17)]) (.node .leaf (some (aE p.add)) .leaf) 1) true))):=nF (nat:=nL) IA (dB La) fun p K hpre hK=>by
 dsimp only at hpre hK ⊢
 obtain⟨hK0,hKr0⟩:=ac hK
 have hK1:=hKr0
 obtain⟨G1,G2,G3,G4,G5,G6,G7,G8⟩:=hpre
 have hl:=ah G1
 have hm:=List.length_pos_iff.2 G2
 have nnx:=trivial
 have nnr:=trivial
 have nnq:=trivial
 have ys {g:Prop} (h:g:=by first|(first|rfl|simp;done)|fail):g:=h
 have yd {g:Prop} (h:g:=by first|(exfalso;omega)|fail):g:=h
 have yg {g:Prop} (h:g:=by first|(refine⟨?_,?_,?_⟩<;>first|assumption|omega)|(refine⟨G1,G2,G3,G4,G5,G6,G7,G8,iz G1,by omega,by omega,?_⟩;simp_all)|fail):g:=h
 have yp {g:Prop} (h:g:=by first|(exact aeI G8 G1 (by assumption) (by assumption))|(exact ajy (by assumption) (by assumption))|fail):g:=h
 have yq {g:Prop} (h:g:=by first|(refine Jg (.mk ..) (h:= ?_);dsimp only[iS,nK,sC];exact wo)|(refine cb (.mk _ _ _ p.dh p.d ..) (h:= ?_);exact wo)|(refine MB (.mk ..) (h:= ?_);dsimp only[jG,oI,va];exact wo)|fail):g:=h
 exact wz
noncomputable def tz:NN:=bY nL Xi [(0,15),(1,23),(2,25)]
noncomputable def bd_l_eqG':NV (df [] [] [] 0xbd664b77a726d25bc665dfb2ffcd3e5077cf2f627cded118ecde3608ee2e597dd72e14614cafa15c):=⟨_,by conv=>rhs;reduce⟩
noncomputable abbrev CZ:XC:=bd_l_eqG'.1
noncomputable def ft_eqG':NV (fun b0=>aB [] [] [b0] 0x365694a5c2e049dd099695cfe2fe471d466e9f8af05eecc0d068fccc847254c73b4a1):=⟨_,by conv=>rhs;reduce⟩
noncomputable abbrev agx:XF:=ft_eqG'.1 CZ
theorem LZ:aK Tryz.prog 52 agx=true:=by kernel_rfl
structure GW where
 h1:Value
 l1:List Int
 h2:Value
 l2:List Int
 i:Int
noncomputable def afF:bN:=cq bT 0 (fun p:GW=>((.cons 13 (.sy (.int 0 p.i)) (.cons 12 (.sy (.int 0 (p.l1.length:Int))) (.cons 1 (.sy (.imm p.h2 2 Int p.l2 am)) (.cons 0 (.sy (.imm p.h1 2 Int p.l1 am)) .nil)))),.leaf,0)) (fun p=>p.l1.length≤1000000∧p.l1.length=p.l2.length∧0≤p.i∧p.i≤(p.l1.length:Int)∧p.l1.take p.i.toNat=p.l2.take p.i.toNat) (fun p K=>ae (iP (p.l1=p.l2) (K 2 .nil .leaf 0) true) (iP (¬p.l1=p.l2) (K 1 (.cons 4 (.bool false) .nil) .leaf 0) true))
theorem PK:bj Tryz.prog 26 0 afF true 0 CZ:=lL (nat:=tz) (fun p:GW=>((p.l1.length:Int) - p.i).toNat) cy (fun _ _ _ _=>rfl) fun p K hpre hK=>by
 dsimp only at hpre hK ⊢
 obtain⟨hK0,hKr0⟩:=ac hK
 have hK1:=hKr0
 obtain⟨g0,g1,g2,g3,g4⟩:=hpre
 have nnh:=trivial
 have yp {g:Prop} (h:g:=by first|(rw[List.take_of_length_le (by omega),List.take_of_length_le (by omega)]at g4;exact g4)|(intro e;rw[e]at hi1;rw[hi1]at hi;injection hi with e9;exact absurd e9 (by assumption))|fail):g:=h
 have yb {g:Prop} (h:g:=by first|(refine⟨g0,g1,by omega,by omega,?_⟩;rw[show(p.i+1).toNat=p.i.toNat+1 by omega,List.take_add_one,List.take_add_one,g4,hi1,hi];simp_all)|fail):g:=h
 exact wz
structure akW where
 h1:Value
 l1:List Int
 h2:Value
 l2:List Int
structure akx where
 q:Prop
theorem afe:aA Tryz.prog 52 0 (aO (fun p:akW=>([.sy (.imm p.h1 2 Int p.l1 am),.sy (.imm p.h2 2 Int p.l2 am)],.leaf,0)) (fun p=>p.l1.length≤1000000) (fun p K=>aj fun r:akx=>iP (r.q↔p.l1=p.l2) (K (.sy (.bool r.q)) .leaf 0) true)):=nF (nat:=tz) LZ (dB PK) fun p K hpre hK=>by
 dsimp only at hpre hK ⊢
 have h1:=hpre
 have yg {g:Prop} (h:g:=by first|(exact⟨h1,by omega,by omega,by omega,by simp⟩)|fail):g:=h
 have yp {g:Prop} (h:g:=by first|(first|(exact⟨fun _=>by assumption,fun _=>rfl⟩)|exact⟨fun h=>by simp at h,fun h=>absurd h (by assumption)⟩|exact⟨fun h=>by simp at h,fun h=>absurd (congrArg List.length h) (by omega)⟩)|fail):g:=h
 exact wz
noncomputable def Fs:NN:=bY tz afe [(0,23),(1,23)]
noncomputable def ft_wish':NV (fun e0=>aB [e0] [] [] 0x1ab1a1b5c7f7caaeb82f5bba8b3ddb8e44d703c2208e411a6e57a19f80d2cb70ea2f7a948cbf4675d33e0582296d266bb83dee27cd09b38517d7f1d33212689a1635c7a6b1c667b0c424602791e577334940cb5ae1849238b3d9d978557e29cfe080e2412c3bd13f8a3b0a6a270f6402654b42602f2b0e913ae5cf991ecfc3fa89b01d9246e04f9b9e8c1ad78f51395078f4899f290de2f2a2c11984953fdb29d342a88dc8ab0272b0502bf05):=⟨_,by conv=>rhs;reduce⟩
noncomputable abbrev YW:XF:=ft_wish'.1 (eB 52 2 am)
theorem Ip:aK Tryz.prog 98 YW=true:=by kernel_rfl
structure aiv where
 q:Nat→Value
 N:Int
 mh:Value
 m:List Int
 susp:List Int
 joins:List Int
 going:List Int
structure ahE where
 h:Value
 o:List Int
theorem Xa:aA Tryz.prog 98 4 (aO (fun p:aiv=>([.ptr 0 0],(.node (.node (.node .leaf (some (aE p.going)) .leaf) (some (aE p.susp)) .leaf) (some (o_u p.N p.mh p.m p.q p.susp.length p.joins.length p.going.length)) (.node .leaf (some (aE p.joins)) .leaf)),4)) (fun p=>NL p.m∧¬p.m=[]∧¬p.N=0∧p.N<4294967295∧0≤p.N∧p.susp.length≤400∧p.going.length≤400∧p.joins.length≤400∧(∀x∈p.joins,0≤x∧x<8)) (fun p K=>aj fun r:ahE=>iP (r.o=bK p.m p.susp p.joins p.going∧NL r.o) (K (.sy (.imm r.h 2 Int r.o am)) (.node (.node (.node .leaf (some (aE p.going)) .leaf) (some (aE p.susp)) .leaf) (some (o_u p.N p.mh p.m p.q p.susp.length p.joins.length p.going.length)) (.node .leaf (some (aE p.joins)) .leaf)) 4) true)):=nE (nat:=Fs) Ip fun p K hpre hK=>by
 dsimp only at hpre hK ⊢
 obtain⟨G1,G2,G3,G4,G5,G6,G7,G8,G9⟩:=hpre
 have hl:=ah G1
 have nnx:=trivial
 have nnr:=trivial
 have ys {g:Prop} (h:g:=by first|(first|rfl|simp;done)|fail):g:=h
 have yg {g:Prop} (h:g:=by first|(first|exact⟨by omega,by omega⟩|assumption)|(first|assumption|(refine⟨?_,?_,?_,?_,?_,?_,?_,?_⟩<;>first|assumption|omega|(simp;done)))|fail):g:=h
 have yp {g:Prop} (h:g:=by first|(unfold bK;simp_all)|fail):g:=h
 have yz {g:Prop} (h:g:=by first|(first|rfl|simp;done)|fail):g:=h
 have yq {g:Prop} (h:g:=by first|(refine cb (.mk _ _ _ _ [] ..) (h:= ?_);exact wo)|fail):g:=h
 exact wz
noncomputable def AP:NN:=iV Fs Xa [(0,4)] [3,4,5,6,8,10,14,15,16,17,18,19,20]
def agR (x:Int):List PL:=[.sint 0 x]
noncomputable abbrev pI (x0:List Int):AObj:=.prow 3 1 Int x0 agR
def aX (x:Int×Int):List PL:=[.sint 1 x.1,.int 2 (.ofNat 1)]
def aW (x:Int×Int):List PL:=[.sint 0 x.2]
def Ds (l o:List Int) (i j:Int):Prop:=∃A x B C,o=A++x::(B++C)∧A.length=j.toNat∧A.length+B.length=i.toNat∧(A++B).Pairwise (· ≤ ·)∧(∀y∈B,x≤y)∧o.Perm l
def xL (l o:List Int) (i:Int):Prop:=∃A C,o=A++C∧A.length=i.toNat∧A.Pairwise (· ≤ ·)∧o.Perm l
theorem Lu {l:List Int} (h:1≤l.length):xL l l (0+1):=by
 cases l with
 |nil=>simp at h
 |cons x l=>exact⟨[x],l,rfl,rfl,by simp,List.Perm.refl _⟩
theorem agh {l o:List Int} {i:Int} (h0:0≤i) (h:xL l o i) (hi:i<(o.length:Int)):Ds l o i i:=by
 obtain⟨A,C,rfl,h1,h2,h3⟩:=h
 cases C with
 |nil=>simp at hi;omega
 |cons x C=>exact⟨A,x,[],C,rfl,h1,by simpa using h1,by simpa using h2,by simp,h3⟩
theorem PS {l o:List Int} {i j x a:Int} (hj:0<j) (h:Ds l o i j) (hx:o[j.toNat]?=some x) (ha:o[(j - 1).toNat]?=some a) (hlt:x<a):Ds l ((o.set j.toNat a).set (j - 1).toNat x) i (j - 1):=by
 obtain⟨A,x',B,C,rfl,h1,h2,h3,h4,h5⟩:=h
 have e1:x'=x:=by
  rw[List.getElem?_append_right (by omega),h1,Nat.sub_self]at hx
  simpa using hx
 subst e1
 rcases List.eq_nil_or_concat A with rfl|⟨A',a',rfl⟩
 ·simp at h1;omega
 simp only[List.concat_eq_append,al2,List.length_singleton]at h1 h2
 have hj1:(j - 1).toNat=A'.length:=by omega
 have e2:a'=a:=by
  rw[hj1,List.concat_eq_append,amb,List.getElem?_append_right (amj _),Nat.sub_self]at ha
  simpa using ha
 subst e2
 have e3:((A'.concat a'++x'::(B++C)).set j.toNat a').set (j - 1).toNat x'=A'++x'::((a'::B)++C):=by
  rw[hj1,show j.toNat=A'.length+1 by omega]
  simp[List.set_append]
 rw[e3]
 refine⟨A',x',a'::B,C,rfl,by omega,by simp;omega,by simpa using h3,fun y hy=> ?_,?_⟩
 ·rcases List.mem_cons.1 hy with rfl|hy
  ·omega
  ·exact h4 y hy
 ·refine List.Perm.trans ?_ h5
  simp only[List.concat_eq_append,amb,ama,amc]
  exact List.Perm.append_left _ (List.Perm.swap _ _ _)
theorem FL {l o:List Int} {i j:Int} (h0:0≤i) (h:Ds l o i j) (hx:j≤0∨∃x a,o[j.toNat]?=some x∧o[(j - 1).toNat]?=some a∧¬x<a∧0<j):xL l o (i+1):=by
 obtain⟨A,x',B,C,rfl,h1,h2,h3,h4,h5⟩:=h
 refine⟨A++x'::B,C,by simp,by simp;omega,?_,h5⟩
 obtain⟨p1,p2,p3⟩:=List.pairwise_append.1 h3
 have key:∀a∈A,a≤x':=by
  rcases hx with hx|⟨x,a,q1,q2,q3,q4⟩
  ·have:A=[]:=amo (by omega)
   subst this;intro a ha;cases ha
  ·have e1:x'=x:=by
    rw[List.getElem?_append_right (by omega),h1,Nat.sub_self]at q1
    simpa using q1
   subst e1
   rcases List.eq_nil_or_concat A with rfl|⟨A',a',rfl⟩
   ·intro a ha;cases ha
   ·simp only[List.concat_eq_append,al2,List.length_singleton]at h1
    have hj1:(j - 1).toNat=A'.length:=by omega
    have e2:a'=a:=by
     rw[hj1,List.concat_eq_append,amb,List.getElem?_append_right (amj _),Nat.sub_self]at q2
     simpa using q2
    subst e2
    intro y hy
    simp only[List.concat_eq_append,amh,List.mem_singleton]at hy
    rcases hy with hy|rfl
    ·rw[List.concat_eq_append]at p1
     have:=(List.pairwise_append.1 p1).2.2 y hy a' (by simp)
     omega
    ·omega
 refine List.pairwise_append.2 ⟨p1,List.pairwise_cons.2 ⟨fun y hy=>h4 y hy,p2⟩,fun a ha b hb=> ?_⟩
 rcases List.mem_cons.1 hb with rfl|hb
 ·exact key a ha
 ·exact p3 a ha b hb
theorem YR {l o:List Int} {i:Int} (h:xL l o i) (hi:(o.length:Int)≤i):o.Perm l∧o.Pairwise (· ≤ ·):=by
 obtain⟨A,C,rfl,h1,h2,h3⟩:=h
 have:C=[]:=amo (by simp at hi;omega)
 subst this
 rw[List.append_nil]at h3 ⊢
 exact⟨h3,h2⟩
noncomputable def ft_bitsG':NV (aB [] [] [] 0x4d3f2cc1159414ad1ccb3fb327bca7caab9b8c5ae97207):=⟨_,by conv=>rhs;reduce⟩
noncomputable abbrev QJ:XF:=ft_bitsG'.1
theorem Ep:aK Tryz.prog 121 QJ=true:=by kernel_rfl
structure abU where
 x:Int
structure abf where
 z:Int
theorem Pb:aA Tryz.prog 121 0 (aO (fun p:abU=>([.sy (.int 4 p.x)],.leaf,0)) (fun p=>0≤p.x∧p.x<9) (fun p K=>aj fun r:abf=>K (.sy (.int 0 r.z)) .leaf 0)):=nE (nat:=AP) Ep fun p K hpre hK=>by
 dsimp only at hpre hK ⊢
 obtain⟨h1,h2⟩:=hpre
 exact wz
noncomputable def yy:NN:=bY AP Pb [(0,20)]
noncomputable def ft_less':NV (aB [] [] [] 0x512543a16624290723dd04f5475bb19f901c93cb2bb7dde4):=⟨_,by conv=>rhs;reduce⟩
noncomputable abbrev Zg:XF:=ft_less'.1
theorem IF:aK Tryz.prog 151 Zg=true:=by kernel_rfl
structure aiG where
 x:Int
 y:Int
theorem Xj:aA Tryz.prog 151 0 (aO (fun p:aiG=>([.sy (.int 0 p.x),.sy (.int 0 p.y)],.leaf,0)) (fun _=>True) (fun p K=>K (.sy (.bool (p.x<p.y))) .leaf 0)):=nE (nat:=yy) IF fun p K hpre hK=>by
 dsimp only at hpre hK ⊢
 have yd {g:Prop} (h:g:=by first|(exfalso;omega)|fail):g:=h
 exact wz
noncomputable def oR:NN:=bY yy Xj [(0,20),(1,20)]
noncomputable def bd_l_insI':NV (df [] [] [] 0xb2ef537d520557311dc9b991318ec9d1e3fb6df6ce760a92c4243b7c664cc12ccd40135b6d1c26bd26528ed9815b78c6f045297547c976f8c1716a9252ca1761c262366c2e08eb2456f):=⟨_,by conv=>rhs;reduce⟩
noncomputable abbrev yU:XC:=bd_l_insI'.1
noncomputable def bd_l_insO':NV (fun b0=>df [] [] [b0] 0x17d9f44045e1e0fe1aa036f3fe52a6f112e7450910d26acbcfcd4082f0f76b2):=⟨_,by conv=>rhs;reduce⟩
noncomputable abbrev yT:XC:=bd_l_insO'.1 yU
noncomputable def ft_insG':NV (fun b0=>aB [] [] [b0] 0x45cf333f67239f5e7591e817c421):=⟨_,by conv=>rhs;reduce⟩
noncomputable abbrev Zh:XF:=ft_insG'.1 yT
theorem IG:aK Tryz.prog 145 Zh=true:=by kernel_rfl
structure Dz where
 l:List Int
 o:List Int
 i:Int
structure RJ where
 o:List Int
structure DA where
 l:List Int
 o:List Int
 i:Int
 j:Int
structure RK where
 o:List Int
noncomputable def FE:bN:=cq (cq bT 0 (fun p:Dz=>((.cons 6 (.sy (.int 0 p.i)) (.cons 2 (.sy (.int 0 (p.l.length:Int))) (.cons 1 (.int 0 (.ofNat 0)) (.cons 0 (.sy (.prow 0 p.l.length)) .nil)))),(.node .leaf (some (pI p.o)) .leaf),1)) (fun p=>p.o.length=p.l.length∧p.l.length≤1000∧1≤p.i∧xL p.l p.o p.i) (fun p K=>aj fun r:RJ=>iP (r.o.Perm p.l∧r.o.Pairwise (· ≤ ·)) (K 2 .nil (.node .leaf (some (pI r.o)) .leaf) 1) true)) 1 (fun p:DA=>((.cons 7 (.sy (.int 0 p.j)) (.cons 6 (.sy (.int 0 p.i)) (.cons 2 (.sy (.int 0 (p.l.length:Int))) (.cons 1 (.int 0 (.ofNat 0)) (.cons 0 (.sy (.prow 0 p.l.length)) .nil))))),(.node .leaf (some (pI p.o)) .leaf),1)) (fun p=>p.o.length=p.l.length∧p.l.length≤1000∧0≤p.j∧p.j≤p.i∧p.i<(p.l.length:Int)∧Ds p.l p.o p.i p.j) (fun p K=>aj fun r:RK=>iP (r.o.length=p.l.length∧xL p.l r.o (p.i+1)) (K 4 (.cons 6 (.sy (.int 0 p.i)) (.cons 2 (.sy (.int 0 (p.l.length:Int))) (.cons 1 (.int 0 (.ofNat 0)) (.cons 0 (.sy (.prow 0 p.l.length)) .nil)))) (.node .leaf (some (pI r.o)) .leaf) 1) true)
theorem Lf:bj Tryz.prog 49 1 FE true 1 yU:=lL (nat:=oR) (fun p:DA=>p.j.toNat) cy (fun _ _ _ _=>rfl) fun p K hpre hK=>by
 dsimp only at hpre hK ⊢
 obtain⟨g0,g00,g1,g2,g3,g5⟩:=hpre
 have nnx:=trivial
 have nnh:=trivial
 have ys {g:Prop} (h:g:=by first|(first|omega|(simp only[List.length_set];omega);done)|fail):g:=h
 have yp {g:Prop} (h:g:=by first|(refine⟨g0,FL (by omega) g5 ?_⟩;first|exact .inl (by omega)|exact .inr ⟨_,_,hi1,hi,by assumption,by omega⟩)|(refine⟨g0,FL (by omega) g5 ?_⟩;first|exact .inl (by omega)|exact .inr ⟨_,_,hi2,hi3,by assumption,by omega⟩)|fail):g:=h
 have yb {g:Prop} (h:g:=by first|(have hs:=PS (by omega) g5 hi4 hi3 (by have e1:=amp (hi4.symm.trans hi1);have e2:=amp (hi3.symm.trans hi2);omega);refine⟨by rw[List.length_set,List.length_set,g0],g00,by omega,by omega,by omega,?_⟩;exact hs)|fail):g:=h
 have yq {g:Prop} (h:g:=by first|(refine wX x3 (by first|exact sd|exact ys) ?_;exact wz)|(refine wX x4 (by first|exact sd|exact ys) ?_;exact wz)|(exact jM (.mk p.l ..))|fail):g:=h
 exact wz
theorem Ld:bj Tryz.prog 49 1 FE true 0 yT:=lL (nat:=oR) (fun p:Dz=>((p.l.length:Int) - p.i).toNat) (dB Lf) (fun _ _ _ _=>rfl) fun p K hpre hK=>by
 dsimp only at hpre hK ⊢
 obtain⟨G1,G2,G3,G4⟩:=hpre
 have yg {g:Prop} (h:g:=by first|(exact⟨by omega,by omega,by omega,by omega,by omega,agh (by omega) G4 (by omega)⟩)|fail):g:=h
 have yp {g:Prop} (h:g:=by first|(exact YR G4 (by omega))|fail):g:=h
 have yb {g:Prop} (h:g:=by first|(exact⟨hi.1,G2,by omega,hi.2⟩)|fail):g:=h
 have yq {g:Prop} (h:g:=by first|(refine cb (.mk p.l ..) (h:= ?_);exact wo)|(exact jM (.mk p.l ..))|fail):g:=h
 exact wz
structure aiH where
 l:List Int
structure ahS where
 o:List Int
theorem Xk:aA Tryz.prog 145 1 (aO (fun p:aiH=>([.sy (.prow 0 p.l.length),.int 0 (.ofNat 0),.sy (.int 0 (p.l.length:Int))],(.node .leaf (some (pI p.l)) .leaf),1)) (fun p=>1≤p.l.length∧p.l.length≤1000) (fun p K=>aj fun r:ahS=>iP (r.o.Perm p.l∧r.o.Pairwise (· ≤ ·)) (K (.tup []) (.node .leaf (some (pI r.o)) .leaf) 1) true)):=nF (nat:=oR) IG (dB Ld) fun p K hpre hK=>by
 dsimp only at hpre hK ⊢
 obtain⟨h1,h2⟩:=hpre
 have yg {g:Prop} (h:g:=by first|(exact⟨rfl,by omega,by omega,Lu (by omega)⟩)|fail):g:=h
 have yq {g:Prop} (h:g:=by first|(refine cb (.mk p.l ..) (h:= ?_);exact wo)|fail):g:=h
 exact wz
noncomputable def AW:NN:=bY oR Xk [(0,25),(1,1),(2,20)]
theorem oO:∀(n:Nat) {l:List Nat},l.Nodup→(∀x∈l,x<n)→l.length≤n
 |0,l,_,h=>by
  cases l with
  |nil=>exact amj _
  |cons x l=>have:=h x (by simp);omega
 |n+1,l,hd,h=>by
  by_cases hm:n∈l
  ·have h1:=oO n (l:=l.erase n) (hd.erase _) fun x hx=>by
    have h2:=(hd.mem_erase_iff).1 hx
    have h3:=h x h2.2
    have h4:=h2.1
    omega
   rw[List.length_erase_of_mem hm]at h1
   omega
  ·have h1:=oO n hd fun x hx=>by
    have h3:=h x hx
    have h4:x≠n:=fun e=>hm (e▸hx)
    omega
   omega
def qz (x:Int):List Int→List Int
 |[]=>[x]
 |y::l=>if x≤y then x::y::l else y::qz x l
def fm (l:List Int):List Int:=l.foldr qz []
theorem qy (x:Int):∀l,(qz x l).Perm (x::l)
 |[]=>.refl _
 |y::l=>by
  unfold qz
  split
  ·exact .refl _
  ·exact((qy x l).cons y).trans (.swap _ _ _)
theorem PT {x y:Int} {l:List Int} (h:y∈qz x l):y=x∨y∈l:=List.mem_cons.1 ((qy x l).mem_iff.1 h)
theorem sE (x:Int):∀{l:List Int},l.Pairwise (· ≤ ·)→(qz x l).Pairwise (· ≤ ·)
 |[],_=>by simp[qz]
 |y::l,h=>by
  obtain⟨h1,h2⟩:=List.pairwise_cons.1 h
  unfold qz
  split
  ·rename_i hxy
   refine List.pairwise_cons.2 ⟨fun z hz=> ?_,h⟩
   rcases List.mem_cons.1 hz with rfl|hz
   ·exact hxy
   ·exact Int.le_trans hxy (h1 z hz)
  ·refine List.pairwise_cons.2 ⟨fun z hz=> ?_,sE x h2⟩
   rcases PT hz with rfl|hz
   ·omega
   ·exact h1 z hz
theorem ir:∀l,(fm l).Perm l
 |[]=>.refl _
 |x::l=>(qy x (fm l)).trans ((ir l).cons x)
theorem jB:∀l,(fm l).Pairwise (· ≤ ·)
 |[]=>.nil
 |x::l=>sE x (jB l)
theorem JL {o l:List Int} (h1:o.Perm l) (h2:o.Pairwise (· ≤ ·)):o=fm l:=
 List.Perm.eq_of_pairwise (le:=(· ≤ ·)) (fun _ _ _ _ a b=>Int.le_antisymm a b) h2 (jB l) (h1.trans (ir l).symm)
theorem VX (l:List Int):(fm l).length=l.length:=(ir l).length_eq
theorem JM {o l:List Int} (h:o.Perm l):fm o=fm l:=JL ((ir o).trans h) (jB o)
def cD:List (Int×Int)→Int→Int→List (Int×Int)
 |[],k,v=>[(k,v)]
 |x::l,k,v=>if x.1=k then (k,v)::l else x::cD l k v
def getK:List (Int×Int)→Int→Int
 |[],_=>0
 |x::l,k=>if x.1=k then x.2 else getK l k
theorem sZ {k v:Int}:∀{l:List (Int×Int)} {j:Nat} {x:Int×Int},(l.map (·.1)).Nodup→l[j]?=some x→x.1=k→l.set j (k,v)=cD l k v
 |[],j,x,_,h,_=>by simp at h
 |y::l,0,x,_,h,e=>by
  simp only[List.getElem?_cons_zero,amm]at h
  subst h
  rw[cD,if_pos e];rfl
 |y::l,j+1,x,hn,h,e=>by
  rw[List.getElem?_cons_succ]at h
  rw[al9,List.nodup_cons]at hn
  have hy:¬y.1=k:=fun q=>hn.1 (by rw[q,←e];exact List.mem_map_of_mem (al7 h))
  rw[cD,if_neg hy,List.set_cons_succ,sZ hn.2 h e]
theorem pY {k v:Int}:∀{l:List (Int×Int)},k∈l.map (·.1)→(cD l k v).map (·.1)=l.map (·.1)
 |[],h=>by simp at h
 |x::l,h=>by
  unfold cD
  split
  ·rename_i e;rw[al9,al9,e]
  ·rename_i e
   rw[al9,al9,pY]
   rw[al9,List.mem_cons]at h
   exact h.resolve_left fun q=>e q.symm
theorem rC {k:Int}:∀{l:List (Int×Int)} {x:Int×Int},(l.map (·.1)).Nodup→x∈l→x.1=k→x.2=getK l k
 |y::l,x,hn,h,e=>by
  rw[al9,List.nodup_cons]at hn
  rcases List.mem_cons.1 h with rfl|h
  ·rw[getK,if_pos e]
  ·have hy:¬y.1=k:=fun q=>hn.1 (by rw[q,←e];exact List.mem_map_of_mem h)
   rw[getK,if_neg hy]
   exact rC hn.2 h e
theorem FQ {k:Int}:∀{l:List (Int×Int)},(∀y∈l,¬y.1=k)→getK l k=0
 |[],_=>rfl
 |x::l,h=>by rw[getK,if_neg (h x (by simp))];exact FQ fun y hy=>h y (by simp[hy])
def gS (com:Int) (m:List Int) (hs:List (Int×Int)):Int:=max com ((fm (hs.map (·.2))).getD (hs.length - (m.length / 2+1)) 0)
def GD (hs:List (Int×Int)) (bs seen:List Nat) (o:List Int):Prop:=∃js:List Nat,seen=js.map (fun j=>bs.getD j 0)∧o=js.map (fun j=>(hs.getD j (0,0)).2)∧js.Nodup∧∀j∈js,j<hs.length
theorem Oa (hs:List (Int×Int)) (bs:List Nat):GD hs bs [] []:=⟨[],rfl,rfl,.nil,by simp⟩
theorem EW {hs:List (Int×Int)} {bs seen:List Nat} {o:List Int} {j b:Nat} {x:Int×Int} (h:GD hs bs seen o) (hx:hs[j]?=some x∧bs[j]?=some b∧¬b∈seen):GD hs bs (seen++[b]) (o++[x.2]):=by
 obtain⟨js,rfl,rfl,h1,h2⟩:=h
 obtain⟨g1,g2,g3⟩:=hx
 refine⟨js++[j],?_,?_,?_,fun i hi=> ?_⟩
 ·simp[List.getD,g2]
 ·simp[List.getD,g1]
 ·refine List.nodup_append.2 ⟨h1,by simp,fun a ha c hc e=> ?_⟩
  simp only[List.mem_singleton]at hc
  subst hc;subst e
  exact g3 (List.mem_map.2 ⟨a,ha,by simp[List.getD,g2]⟩)
 ·rcases amh.1 hi with hi|hi
  ·exact h2 i hi
  ·simp only[List.mem_singleton]at hi
   subst hi
   exact(List.getElem?_eq_some_iff.1 g1).1
theorem WH {js:List Nat} {n:Nat} (h1:js.Nodup) (h2:∀j∈js,j<n) (h3:∀j,j<n→j∈js):js.Perm (List.range n):=by
 refine(List.perm_ext_iff_of_nodup h1 List.nodup_range).2 fun j=> ?_
 rw[List.mem_range]
 exact⟨h2 j,h3 j⟩
theorem aep {hs:List (Int×Int)} {bs seen:List Nat} {cl:Nat} {o:List Int} (hb:pF hs.length bs cl) (h:GD hs bs seen o) (hx:∀b∈bs,b∈seen):o.Perm (hs.map (·.2)):=by
 obtain⟨js,rfl,rfl,h1,h2⟩:=h
 obtain⟨b1,b2,_⟩:=hb
 have hp:=WH h1 h2 fun j hj=>by
  have hj':j<bs.length:=by omega
  obtain⟨i,hi,e⟩:=List.mem_map.1 (hx bs[j] (List.getElem_mem hj'))
  have hi':i<bs.length:=by have:=h2 i hi;omega
  have e:bs[i]=bs[j]:=by simpa[List.getD,List.getElem?_eq_getElem hi'] using e
  have:=(List.getElem_inj b2).1 e
  subst this;exact hi
 have e:hs.map (·.2)=(List.range hs.length).map (fun j=>(hs.getD j (0,0)).2):=by
  refine List.ext_getElem (by simp) fun i g1 g2=> ?_
  simp only[al4]at g1
  simp[List.getD,List.getElem?_eq_getElem g1]
 rw[e]
 exact hp.map _
theorem JU {hs:List (Int×Int)} {bs seen:List Nat} {o:List Int} (h:GD hs bs seen o):o.length≤hs.length∧seen.length=o.length:=by
 obtain⟨js,rfl,rfl,h1,h2⟩:=h
 refine⟨?_,by simp⟩
 rw[al4]
 have:js.Subset (List.range hs.length):=fun j hj=>List.mem_range.2 (h2 j hj)
 simpa using oO hs.length h1 h2
noncomputable def ft_pdqG':NV (aB [] [] [] 0x3c81f852e5389a80a53a24b7cd50c16fd8d2e91c69ba952fea364a00639a6b0b43806553f49f49b1eaf0f7fe9fd14b9d4191dc40d212bda1b75b78d7e0c69cb431ceaca8bda2c69b97e4c9cb77822ec123cdf6af969680cc58e9543d44ebd254adca3550a6c899f8c9690f1fdb2a78035f3a42e8e555dc881a2bf62faaa2ab24c6b52b9143208314bf37edce0c553a60eee1cd77612ee000fd04fd497393914cd96c39c681f867aeb60b049e4118d424883ef96d97e5858bbe41920e9ced68041fe1e1b58ec19ad8f42b7573045715564f5292abb0d09913d52135b222f0623e7cf3168530d2484fbc2b26b7e4d9941acb89ec842120cd984efd16089d541ee8cf93b27a06fd43242e089b674c1f0bb60):=⟨_,by conv=>rhs;reduce⟩
noncomputable abbrev Zd:XF:=ft_pdqG'.1
theorem Iz:aK Tryz.prog 120 Zd=true:=by kernel_rfl
structure aiD where
 l:List Int
 z:Int
structure ahK where
 o:List Int
theorem Xh:aA Tryz.prog 120 1 (aO (fun p:aiD=>([.sy (.prow 0 p.l.length),.int 0 (.ofNat 0),.sy (.int 0 (p.l.length:Int)),.sy (.int 0 p.z)],(.node .leaf (some (pI p.l)) .leaf),1)) (fun p=>1≤p.l.length∧p.l.length≤8) (fun p K=>aj fun r:ahK=>iP (r.o.Perm p.l∧r.o.Pairwise (· ≤ ·)) (K (.tup []) (.node .leaf (some (pI r.o)) .leaf) 1) true)):=nE (nat:=AW) Iz fun p K hpre hK=>by
 dsimp only at hpre hK ⊢
 obtain⟨h1,h2⟩:=hpre
 exact wz
noncomputable def AU:NN:=bY AW Xh [(0,25),(1,1),(2,20),(3,20)]
noncomputable def ft_sortG':NV (aB [] [] [] 0x217f4aef8e9423e6a1038eac1ea8a7d0a7e):=⟨_,by conv=>rhs;reduce⟩
noncomputable abbrev Qj:XF:=ft_sortG'.1
theorem DS:aK Tryz.prog 89 Qj=true:=by kernel_rfl
structure abv where
 l:List Int
structure aaI where
 o:List Int
theorem OD:aA Tryz.prog 89 1 (aO (fun p:abv=>([.sy (.prow 0 p.l.length)],(.node .leaf (some (pI p.l)) .leaf),1)) (fun p=>1≤p.l.length∧p.l.length≤8) (fun p K=>aj fun r:aaI=>iP (r.o=fm p.l∧r.o.length=p.l.length) (K (.tup []) (.node .leaf (some (pI r.o)) .leaf) 1) true)):=nE (nat:=AU) DS fun p K hpre hK=>by
 dsimp only at hpre hK ⊢
 obtain⟨h1,h2⟩:=hpre
 have yp {g:Prop} (h:g:=by first|(exact⟨JL (hi).1 (hi).2,(hi).1.length_eq⟩)|fail):g:=h
 exact wz
noncomputable def mV:NN:=bY AU OD [(0,25)]
structure Ke where
 v:Int
 w:Int
def aD (x:Ke):List PL:=[.int 1 (.ofNat 2),.int 1 (.ofNat 0),.int 2 (.ofNat 0),.int 3 (.ofNat 0),.int 1 (.ofNat 0),.int 1 (.ofNat 0),.int 1 (.ofNat 0),.int 1 (.ofNat 0),.int 1 (.ofNat 0),.int 1 (.ofNat 0),.int 1 (.ofNat 0),.int 3 (.ofNat 0),.nilS,.int 1 (.ofNat 0),.str [],.nilS,.sint 1 x.v,.sint 2 x.w]
noncomputable abbrev kB (x0:Int) (x1:Int) (x2:Int) (x3:Int) (x4:Int) (x5:Int) (x6:List Nat) (x7:Int) (x8:Value) (x9:List Int) (x10:Int) (x11:Int) (x12:Prop) (x13:Value) (x14:List Int) (x15:Value) (x16:List Ke) (x17:Value) (x18:List Ke):AV:=.agg [.sy (.int 1 x0),.int 1 (.ofNat 0),.int 1 (.ofNat 0),.sy (.int 3 x1),.sy (.int 3 x2),.sy (.int 3 x3),.int 3 (.ofNat 0),.sy (.int 4 x4),.sy (.int 4 x5),.int 1 (.ofNat 0),.int 2 (.ofNat 0),.int 3 (.ofNat 0),.int 1 (.ofNat 0),.int 1 (.ofNat 0),.int 1 (.ofNat 0),.int 1 (.ofNat 0),.int 1 (.ofNat 0),.int 1 (.ofNat 0),.int 1 (.ofNat 0),.nilS,.int 1 (.ofNat 0),.str x6,.int 1 (.ofNat 0),.sy (.int 3 x7),.sy (.imm x8 2 Int x9 am),.sy (.int 1 x10),.sy (.int 2 x11),.sy (.bool x12),.sy (.imm x13 2 Int x14 am),.sy (.imm x15 18 Ke x16 aD),.sy (.imm x17 18 Ke x18 aD)]
noncomputable abbrev qf (x0:Int) (x1:Value) (x2:List Int) (x3:Nat) (x4:Nat) (x5:Nat) (x6:Int) (x7:Int) (x8:Value) (x9:List Int) (x10:Nat) (x11:Nat) (x12:Nat) (x13:Nat) (x14:Nat) (x15:Nat) (x16:Prop) (x17:Int) (x18:Int) (x19:Int) (x20:Value) (x21:List Ke) (x22:Nat) (x23:Nat) (x24:Int):AObj:=.blk false 86 21 [[.int 1 (.ofNat 0),.sy (.int 3 x0),.sy (.imm x1 2 Int x2 am),.ptr x3 0,.ptr x4 0,.ptr x5 0,.sy (.int 0 x6),.int 1 (.ofNat 0),.sy (.int 1 x7),.int 2 (.ofNat 1),.sy (.imm x8 2 Int x9 am),.sy (.prow x10 x11),.sy (.prow x12 x13),.sy (.prow x14 x15),.sy (.bool x16),.sy (.int 3 x17),.sy (.int 3 x18),.sy (.int 0 x19),.sy (.imm x20 18 Ke x21 aD),.sy (.prow x22 x23),.sy (.int 0 x24)]]
noncomputable abbrev eX (x0:Int) (x1:Int) (x2:Value) (x3:List Int) (x4:Value) (x5:List Ke):AObj:=.blk false 132 5 [[.sy (.int 4 x0),.sy (.int 4 x1),.sy (.imm x2 2 Int x3 am),.sy (.imm x4 18 Ke x5 aD),.bool true]]
noncomputable abbrev Ff (x0:Int) (x1:Int) (x2:Int) (x3:Int) (x4:Int) (x5:Int) (x6:List Nat) (x7:Int) (x8:Value) (x9:List Int) (x10:Int) (x11:Int) (x12:Prop) (x13:Value) (x14:List Int) (x15:Value) (x16:List Ke) (x17:Value) (x18:List Ke):AObj:=.blk false 74 31 [[.sy (.int 1 x0),.int 1 (.ofNat 0),.int 1 (.ofNat 0),.sy (.int 3 x1),.sy (.int 3 x2),.sy (.int 3 x3),.int 3 (.ofNat 0),.sy (.int 4 x4),.sy (.int 4 x5),.int 1 (.ofNat 0),.int 2 (.ofNat 0),.int 3 (.ofNat 0),.int 1 (.ofNat 0),.int 1 (.ofNat 0),.int 1 (.ofNat 0),.int 1 (.ofNat 0),.int 1 (.ofNat 0),.int 1 (.ofNat 0),.int 1 (.ofNat 0),.nilS,.int 1 (.ofNat 0),.str x6,.int 1 (.ofNat 0),.sy (.int 3 x7),.sy (.imm x8 2 Int x9 am),.sy (.int 1 x10),.sy (.int 2 x11),.sy (.bool x12),.sy (.imm x13 2 Int x14 am),.sy (.imm x15 18 Ke x16 aD),.sy (.imm x17 18 Ke x18 aD)]]
noncomputable abbrev Fe (x0:Int) (x1:Value) (x2:List Int) (x3:Nat) (x4:Nat) (x5:Int) (x6:Int) (x7:Value) (x8:List Int) (x9:Nat) (x10:Nat) (x11:Nat) (x12:Nat) (x13:Nat) (x14:Nat) (x15:Prop) (x16:Int) (x17:Int) (x18:Int) (x19:Value) (x20:List Ke) (x21:Nat) (x22:Nat) (x23:Int):AObj:=.blk false 86 21 [[.int 1 (.ofNat 0),.sy (.int 3 x0),.sy (.imm x1 2 Int x2 am),.ptr x3 0,.ptr x4 0,.nilP,.sy (.int 0 x5),.int 1 (.ofNat 0),.sy (.int 1 x6),.int 2 (.ofNat 1),.sy (.imm x7 2 Int x8 am),.sy (.prow x9 x10),.sy (.prow x11 x12),.sy (.prow x13 x14),.sy (.bool x15),.sy (.int 3 x16),.sy (.int 3 x17),.sy (.int 0 x18),.sy (.imm x19 18 Ke x20 aD),.sy (.prow x21 x22),.sy (.int 0 x23)]]
noncomputable abbrev bu (x0:List Ke):AObj:=.prow 68 18 Ke x0 aD
noncomputable abbrev Fh (x0:Value) (x1:List Int) (x2:Value) (x3:List Ke):AV:=.agg [.sy (.imm x0 2 Int x1 am),.sy (.imm x2 18 Ke x3 aD)]
theorem ad9 {hs:List (Int×Int)} {m:List Int} {me n:Int} (g1:NL m) (g2:me∈m) (g3:hs.map (·.1)=m) (h:∀y∈hs,¬y.1=me):hs++[(me,n)]=cD hs me n∧(hs++[(me,n)]).map (·.1)=m∧(hs++[(me,n)]).length=m.length:=by
 rw[←g3]at g2
 obtain⟨y,hy,e⟩:=List.mem_map.1 g2
 exact absurd e (h y hy)
theorem ad8 {hs:List (Int×Int)} {m:List Int} {me n:Int} {j:Nat} {x:Int×Int} (g1:NL m) (g2:me∈m) (g3:hs.map (·.1)=m) (h:hs[j]?=some x∧x.1=me):hs.set j (me,n)=cD hs me n∧(hs.set j (me,n)).map (·.1)=m∧(hs.set j (me,n)).length=m.length:=by
 have e:=sZ (v:=n) (by rw[g3];exact g1.1) h.1 h.2
 exact⟨e,by rw[e,pY (by rw[g3];exact g2),g3],by rw[List.length_set,←g3,al4]⟩
theorem aea {hs hs':List (Int×Int)} {m:List Int} {me n com:Int} {a b:List Int} {z:Int} (h1:hs'=cD hs me n∧hs'.map (·.1)=m∧hs'.length=m.length) (h2:a.Perm (hs'.map (·.2))∧a.length=hs'.length) (h3:b=fm a∧b.length=a.length) (hz:b[((a.length:Int) - (Int.tdiv (m.length:Int) 2+1)).toNat]?=some z):hs'=cD hs me n∧max com z=gS com m hs':=by
 refine⟨h1.1,?_⟩
 unfold gS
 rw[JM h2.1]at h3
 rw[Int.tdiv_eq_ediv_of_nonneg (by omega),h2.2,h3.1]at hz
 rw[show hs'.length - (m.length / 2+1)=((hs'.length:Int) - ((m.length:Int) / 2+1)).toNat by omega,List.getD,hz]
 rfl
noncomputable def bd_rgG':NV (df [] [] [] 0xfb7b2accfe1d8722bed6bcaa2ed1a77bb5757ec1d):=⟨_,by conv=>rhs;reduce⟩
noncomputable abbrev MH:XC:=bd_rgG'.1
noncomputable def bd_l_stG':NV (fun a0 a1=>df [] [a0,a1] [] 0xa30600e2ae73ebb14802a52e052230d17a85826a0e8e3f45bdb76db29f09467):=⟨_,by conv=>rhs;reduce⟩
noncomputable abbrev CT:XC:=bd_l_stG'.1 (.cam 3 [0,2,28] 2 true false (Int×Int) aX aW) (.kb 2 true false (Int×Int) aX aW)
noncomputable def ft_settleG':NV (fun e0 a0 b0 b1=>aB [e0] [a0] [b0,b1] 0xd16f9e657d01fc1e2cc8966413d8b0bea2880e50d6fd26fe862ef4919c69d115b80b5ce93dcbf0825906745a8a01e3e83ca74c3f1a2049c534d1cf19983c774566749043):=⟨_,by conv=>rhs;reduce⟩
noncomputable abbrev Iw:XF:=ft_settleG'.1 (eN 3 1 agR) (.cam 3 [0,2,28] 2 true false (Int×Int) aX aW) MH CT
theorem zk:aK Tryz.prog 68 Iw=true:=by kernel_rfl
structure akK where
 N:Int
 rh:Value
 m:List Int
 me:Int
 log:List Ke
 ba:Int
 com:Int
 sh:Bool
 hs:List (Int×Int)
structure ako where
 hs:List (Int×Int)
structure GP where
 N:Int
 rh:Value
 m:List Int
 me:Int
 log:List Ke
 ba:Int
 com:Int
 sh:Bool
 hs:List (Int×Int)
 bs:List Nat
 cl:Nat
 sn:List Nat
 o:List Int
structure aaW where
 o:List Int
noncomputable def uW:bN:=cq (cq bT 1 (fun p:akK=>((.cons 0 (.ptr 0 0) .nil),(.node (.node .leaf (some (bu p.log)) .leaf) (some (ce p.N p.rh p.m p.me 1 p.log.length p.ba p.com (p.sh=true) 2)) (.node .leaf (some (.kmap true true false (Int×Int) p.hs aX aW)) .leaf)),3)) (fun p=>NL p.m∧p.me∈p.m∧p.hs.map (·.1)=p.m∧p.log.length≤400) (fun p K=>aj fun r:ako=>iP (r.hs=cD p.hs p.me (p.log.length:Int)∧r.hs.map (·.1)=p.m∧r.hs.length=p.m.length) (K 0 (.cons 0 (.ptr 0 0) .nil) (.node (.node .leaf (some (bu p.log)) .leaf) (some (ce p.N p.rh p.m p.me 1 p.log.length p.ba p.com (p.sh=true) 2)) (.node .leaf (some (.kmap true true false (Int×Int) r.hs aX aW)) .leaf)) 3) true)) 0 (fun p:GP=>((.cons 28 (.ptr 4 0) (.cons 2 (.sy (.prow 3 p.o.length)) (.cons 0 (.ptr 0 0) .nil))),(.node (.node (.node .leaf (some (pI p.o)) .leaf) (some (bu p.log)) .leaf) (some (ce p.N p.rh p.m p.me 1 p.log.length p.ba p.com (p.sh=true) 2)) (.node (.node .leaf (some (.kit 2 true false (Int×Int) p.hs aX aW p.bs p.sn p.cl)) .leaf) (some (.map (eH true false aX aW p.hs p.bs) p.cl)) .leaf)),5)) (fun p=>NL p.m∧p.me∈p.m∧p.hs.map (·.1)=p.m∧p.log.length≤400∧pF p.hs.length p.bs p.cl∧GD p.hs p.bs p.sn p.o) (fun p K=>aj fun r:aaW=>iP (r.o.Perm (p.hs.map (·.2))∧r.o.length=p.hs.length) (K 2 (.cons 2 (.sy (.prow 3 r.o.length)) (.cons 0 (.ptr 0 0) .nil)) (.node (.node (.node .leaf (some (pI r.o)) .leaf) (some (bu p.log)) .leaf) (some (ce p.N p.rh p.m p.me 1 p.log.length p.ba p.com (p.sh=true) 2)) (.node .leaf (some (.kmap true true false (Int×Int) p.hs aX aW)) .leaf)) 4) true)
theorem afK:bj Tryz.prog 58 3 uW false 1 MH:=lP (nat:=mV) cy (fun _ _ _ _=>rfl) fun p K hpre hK=>by
 dsimp only at hpre hK ⊢
 obtain⟨g1,g2,g3,g4⟩:=hpre
 have ys {g:Prop} (h:g:=by first|(refine⟨?_,rfl⟩;have e:=(by assumption:_∧_).2;(try dsimp only at e);rw[←e];rfl;done)|fail):g:=h
 have yp {g:Prop} (h:g:=by first|(first|exact ad9 g1 g2 g3 hi|exact ad8 g1 g2 g3 hi)|fail):g:=h
 have yz {g:Prop} (h:g:=by first|((try dsimp only);omega;done)|fail):g:=h
 have yq {g:Prop} (h:g:=by first|(refine aY (fun y=>y.1=p.me) ?_;exact wz)|(refine wY (p.me,(p.log.length:Int)) (by first|exact sd|exact ys) (by first|exact sd|exact ys) ?_;exact wz)|fail):g:=h
 exact wz
theorem PE:bj Tryz.prog 58 3 uW true 0 CT:=lL (nat:=mV) (fun p:GP=>p.hs.length - p.o.length) cy (fun _ _ _ _=>rfl) fun p K hpre hK=>by
 dsimp only at hpre hK ⊢
 obtain⟨g1,g2,g3,g4,g5,g6⟩:=hpre
 have hl:=JU g6
 have hm:=ah g1
 have hn:=congrArg List.length g3
 simp only[al4]at hn
 have nnx:=trivial
 have ys {g:Prop} (h:g:=by first|(exact⟨rfl,rfl,by assumption⟩)|(exact⟨(ij (by assumption:pF _ _ _).1).1,CM (by assumption)⟩)|(exact⟨(by assumption:_∧_∧_).1,(by assumption:_∧_∧_).2.1,_,rfl⟩)|(simp[bR];omega;done)|fail):g:=h
 have yp {g:Prop} (h:g:=by first|(have e:=aep g5 g6 hi;exact⟨e,by simpa using e.length_eq⟩)|fail):g:=h
 have yb {g:Prop} (h:g:=by first|(exact⟨g1,g2,g3,g4,g5,EW g6 (by assumption)⟩)|fail):g:=h
 have ym {g:Prop} (h:g:=by first|(have hz:=(JU (EW g6 (by assumption))).1;simp only[al2,List.length_singleton]at hz ⊢;omega)|fail):g:=h
 have yq {g:Prop} (h:g:=by first|(refine wX p.hs (by first|exact sd|exact ys) ?_;exact wz)|(refine wX _ (by first|exact sd|exact ys) ?_;exact wz)|(refine wX x2 (by first|exact sd|exact ys) ?_;exact wz)|(refine wX [_] (by first|exact sd|exact ys) ?_;exact wz)|(refine aY x1 ?_;exact wz)|(refine aY x2 ?_;exact wz)|(refine aY x3 ?_;exact wz)|(exact jM (.mk _ _ _ _ _ _ _ _ _ p.bs p.cl ..))|fail):g:=h
 exact wz
structure Nr where
 N:Int
 rh:Value
 m:List Int
 me:Int
 log:List Ke
 ba:Int
 com:Int
 sh:Bool
 hs:List (Int×Int)
structure MX where
 com:Int
 hs:List (Int×Int)
theorem HH:aA Tryz.prog 68 3 (aO (fun p:Nr=>([.ptr 0 0],(.node (.node .leaf (some (bu p.log)) .leaf) (some (ce p.N p.rh p.m p.me 1 p.log.length p.ba p.com (p.sh=true) 2)) (.node .leaf (some (.kmap true true false (Int×Int) p.hs aX aW)) .leaf)),3)) (fun p=>NL p.m∧p.me∈p.m∧p.hs.map (·.1)=p.m∧p.log.length≤400) (fun p K=>aj fun r:MX=>iP (r.hs=cD p.hs p.me (p.log.length:Int)∧r.com=gS p.com p.m r.hs) (K (.tup []) (.node (.node .leaf (some (bu p.log)) .leaf) (some (ce p.N p.rh p.m p.me 1 p.log.length p.ba r.com (p.sh=true) 2)) (.node .leaf (some (.kmap true true false (Int×Int) r.hs aX aW)) .leaf)) 3) true)):=nF (nat:=mV) zk (fun b j x h=>(cW afK (fun h=>(cW PE (fun h=>(by cases h)) h)) h)) fun p K hpre hK=>by
 dsimp only at hpre hK ⊢
 obtain⟨G1,G2,G3,G4⟩:=hpre
 have hm:=ah G1
 have hm2:=List.length_pos_iff.2 (List.ne_nil_of_mem G2)
 have ht:Int.tdiv (p.m.length:Int) 2=(p.m.length:Int) / 2:=Int.tdiv_eq_ediv_of_nonneg (by omega)
 have nnx:=trivial
 have nnh:=trivial
 have ys {g:Prop} (h:g:=by first|(exact⟨rfl,by omega,by omega,by omega⟩)|(exact⟨(ij (by assumption:pF _ _ _).1).1,CM (by assumption)⟩)|(decide)|(simp only[gX,ht];omega;done)|(simp only[ht];first|omega|(constructor<;>omega);done)|fail):g:=h
 have yg {g:Prop} (h:g:=by first|(exact⟨G1,G2,G3,G4⟩)|(exact⟨G1,G2,hi1.2.1,G4,hi,Oa _ _⟩)|fail):g:=h
 have yp {g:Prop} (h:g:=by first|(exact aea hi1 hi3 hi4 hi)|fail):g:=h
 have yq {g:Prop} (h:g:=by first|(refine cb (.mk _ _ _ _ _ _ _ _ _ x1 x2 [] [] ..) (h:= ?_);exact wo)|(refine wX _ (by first|exact sd|exact ys) ?_;exact wz)|fail):g:=h
 exact wz
noncomputable def sx:NN:=bY mV HH [(0,4)]
structure ROk (m:List Int) (me:Int) (log:List Ke) (ba com:Int) (hs:List (Int×Int)):Prop where
 nl:NL m
 me:me∈m
 keys:hs.map (·.1)=m
 len:log.length≤400
 ba0:0≤ba
 ba1:ba≤(log.length:Int)
 com0:0≤com
 com1:com≤(log.length:Int)
 has:∀x∈hs,0≤x.2∧x.2≤(log.length:Int)
structure vQ (x:Ke):Prop where
 v0:0≤x.v
 v1:x.v≤15
 w0:1≤x.w
theorem agZ {com n:Int} {m:List Int} {hs:List (Int×Int)} (h0:0≤com) (h1:com≤n) (h:∀x∈hs,0≤x.2∧x.2≤n):0≤gS com m hs∧gS com m hs≤n:=by
 have key:∀z∈fm (hs.map (·.2)),0≤z∧z≤n:=fun z hz=>by
  obtain⟨x,hx,rfl⟩:=List.mem_map.1 ((ir _).mem_iff.1 hz)
  exact h x hx
 unfold gS
 rw[List.getD]
 cases e:(fm (hs.map (·.2)))[hs.length - (m.length / 2+1)]? with
 |none=>simp only[Option.getD_none];omega
 |some z=>have:=key z (al7 e);simp only[Option.getD_some];omega
theorem lK {k v:Int}:∀{l:List (Int×Int)} {x:Int×Int},x∈cD l k v→x∈l∨x=(k,v)
 |[],x,h=>.inr (by simpa[cD] using h)
 |y::l,x,h=>by
  unfold cD at h
  split at h
  ·rcases List.mem_cons.1 h with rfl|h
   ·exact .inr rfl
   ·exact .inl (by simp[h])
  ·rcases List.mem_cons.1 h with rfl|h
   ·exact .inl (by simp)
   ·exact(lK h).imp (fun h=>by simp[h]) id
theorem ROk.put {m:List Int} {me:Int} {log:List Ke} {ba com:Int} {hs:List (Int×Int)} (h:ROk m me log ba com hs) {k v:Int} (hk:k∈m) (h0:0≤v) (h1:v≤(log.length:Int)):ROk m me log ba com (cD hs k v):=
 ⟨h.nl,h.me,by rw[pY (by rw[h.keys];exact hk),h.keys],h.len,h.ba0,h.ba1,h.com0,h.com1,fun x hx=>(lK hx).elim (h.has x) fun e=>by subst e;exact⟨h0,h1⟩⟩
theorem ROk.settle {m:List Int} {me:Int} {log:List Ke} {ba com:Int} {hs:List (Int×Int)} (h:ROk m me log ba com hs):ROk m me log ba (gS com m (cD hs me (log.length:Int))) (cD hs me (log.length:Int)):=by
 have h2:=h.put h.me (by omega) (Int.le_refl _)
 have h3:=agZ (m:=m) h2.com0 h2.com1 h2.has
 exact⟨h2.nl,h2.me,h2.keys,h2.len,h2.ba0,h2.ba1,h3.1,h3.2,h2.has⟩
theorem ROk.more {m:List Int} {me:Int} {log l:List Ke} {ba com:Int} {hs:List (Int×Int)} (h:ROk m me log ba com hs) (hl:(log++l).length≤400):ROk m me (log++l) ba com hs:=by
 have e:log.length≤(log++l).length:=by simp
 exact⟨h.nl,h.me,h.keys,hl,h.ba0,by have:=h.ba1;omega,h.com0,by have:=h.com1;omega,fun x hx=>by have:=h.has x hx;omega⟩
theorem ROk.pre {m:List Int} {me:Int} {log:List Ke} {ba com:Int} {hs:List (Int×Int)} (h:ROk m me log ba com hs):NL m∧me∈m∧hs.map (·.1)=m∧log.length≤400:=⟨h.nl,h.me,h.keys,h.len⟩
theorem fU {m:List Int} {x me:Int} (h:m[0]?=some x):me=x↔m.head?=some me:=by
 rw[List.head?_eq_getElem?,h,amm]
 exact eq_comm
def gT (m:List Int) (me:Int) (log:List Ke) (com:Int) (sh:Bool) (hs:List (Int×Int)) (x:Ke):List Ke×Int×List (Int×Int):=
 if m.head?=some me∧sh=false∧log.length<400 then (log++[x],gS com m (cD hs me ((log++[x]).length:Int)),cD hs me ((log++[x]).length:Int)) else (log,com,hs)
theorem aht {m:List Int} {me:Int} {log:List Ke} {com:Int} {sh:Bool} {hs:List (Int×Int)} {x:Ke} (h:¬(m.head?=some me∧sh=false∧log.length<400)):(log,com,hs)=gT m me log com sh hs x:=by unfold gT;rw[if_neg h]
theorem aao {m:List Int} {me:Int} {log:List Ke} {com c2:Int} {sh:Bool} {hs h2:List (Int×Int)} {x:Ke} (h:m.head?=some me∧sh=false∧log.length<400) (e:h2=cD hs me ((log++[x]).length:Int)∧c2=gS com m h2):(log++[x],c2,h2)=gT m me log com sh hs x:=by
 unfold gT
 rw[if_pos h,e.2,e.1]
theorem ahs {m:List Int} {me:Int} {log:List Ke} {ba com:Int} {sh:Bool} {hs:List (Int×Int)} (x:Ke) (h:ROk m me log ba com hs):ROk m me (gT m me log com sh hs x).1 ba (gT m me log com sh hs x).2.1 (gT m me log com sh hs x).2.2:=by
 unfold gT
 split
 ·rename_i q
  exact(h.more (l:=[x]) (by rw[al2,List.length_singleton];omega)).settle
 ·exact h
def fZ (m:List Int) (me:Int) (log:List Ke) (com:Int) (hs:List (Int×Int)) (p up:Int):Int×List (Int×Int):=
 if m.head?=some me∧¬p=me∧p∈m∧up≤(log.length:Int) then (gS com m (cD (cD hs p (max (getK hs p) up)) me (log.length:Int)),cD (cD hs p (max (getK hs p) up)) me (log.length:Int)) else (com,hs)
theorem ahw {m:List Int} {me:Int} {log:List Ke} {com:Int} {hs:List (Int×Int)} {p up:Int} (h:¬(m.head?=some me∧¬p=me∧p∈m∧up≤(log.length:Int))):(com,hs)=fZ m me log com hs p up:=by unfold fZ;rw[if_neg h]
theorem aas {m:List Int} {me:Int} {log:List Ke} {com c2:Int} {hs h1 h2:List (Int×Int)} {p up:Int} (h:m.head?=some me∧¬p=me∧p∈m∧up≤(log.length:Int)) (e1:h1=cD hs p (max (getK hs p) up)) (e:h2=cD h1 me (log.length:Int)∧c2=gS com m h2):(c2,h2)=fZ m me log com hs p up:=by
 unfold fZ
 rw[if_pos h,e.2,e.1,e1]
theorem fx {m:List Int} {me:Int} {log:List Ke} {ba com:Int} {hs:List (Int×Int)} (h:ROk m me log ba com hs) (p:Int):0≤getK hs p∧getK hs p≤(log.length:Int):=by
 by_cases q:∃y∈hs,y.1=p
 ·obtain⟨y,hy,e⟩:=q
  rw[←rC (by rw[h.keys];exact h.nl.1) hy e]
  exact h.has y hy
 ·rw[FQ fun y hy e=>q ⟨y,hy,e⟩]
  omega
theorem ahv {m:List Int} {me:Int} {log:List Ke} {ba com:Int} {hs:List (Int×Int)} {p up:Int} (h:ROk m me log ba com hs):ROk m me log ba (fZ m me log com hs p up).1 (fZ m me log com hs p up).2:=by
 unfold fZ
 split
 ·rename_i q
  have:=fx h p
  exact(h.put q.2.2.1 (by omega) (by omega)).settle
 ·exact h
theorem xI {m:List Int} {me:Int} {log:List Ke} {ba com:Int} {hs:List (Int×Int)} {p:Int} {C:Prop} (h:ROk m me log ba com hs) (hp:p∈m) (hn:∀y∈hs,¬(fun y:Int×Int=>y.1=p) y):C:=by
 rw[←h.keys]at hp
 obtain⟨y,hy,e⟩:=List.mem_map.1 hp
 exact absurd e (hn y hy)
theorem ahr {m:List Int} {me:Int} {log:List Ke} {ba com:Int} {hs:List (Int×Int)} {p up:Int} {x y:Int×Int} {j:Nat} (h:ROk m me log ba com hs) (hx:x∈hs∧(fun y:Int×Int=>y.1=p) x) (hy:hs[j]?=some y∧(fun y:Int×Int=>y.1=p) y):hs.set j (p,max x.2 up)=cD hs p (max (getK hs p) up):=by
 have hn:(hs.map (·.1)).Nodup:=by rw[h.keys];exact h.nl.1
 rw[←rC hn hx.1 hx.2]
 exact sZ hn hy.1 hy.2
def fV (m:List Int) (me:Int) (log:List Ke) (ba com:Int) (sh:Bool) (fr:Int) (l:List Ke) (c:Int):List Ke×Int:=
 if ¬m.head?=some me∧ba≤fr∧fr≤(log.length:Int)∧(l.length:Int)≤400 - fr then
  if sh=false∧(log.length:Int) - fr<(l.length:Int) then (log++l.drop ((log.length:Int) - fr).toNat,max com (min c ((log++l.drop ((log.length:Int) - fr).toNat).length:Int))) else (log,max com (min c (log.length:Int)))
 else (log,com)
noncomputable def ft_leadsG':NV (aB [] [] [] 0x1307beada831473c692bd2d49f6b0bcfcc026b03b9c84f959d2119ddfae3277d6df):=⟨_,by conv=>rhs;reduce⟩
noncomputable abbrev LP:XF:=ft_leadsG'.1
theorem Cg:aK Tryz.prog 65 LP=true:=by kernel_rfl
structure Sw where
 N:Int
 rh:Value
 m:List Int
 me:Int
 log:List Ke
 ba:Int
 com:Int
 sh:Bool
 hs:List (Int×Int)
structure RA where
 q:Prop
theorem KA:aA Tryz.prog 65 3 (aO (fun p:Sw=>([.ptr 0 0],(.node (.node .leaf (some (bu p.log)) .leaf) (some (ce p.N p.rh p.m p.me 1 p.log.length p.ba p.com (p.sh=true) 2)) (.node .leaf (some (.kmap true true false (Int×Int) p.hs aX aW)) .leaf)),3)) (fun p=>¬p.m=[]∧p.m.length≤8) (fun p K=>aj fun r:RA=>iP (r.q↔p.m.head?=some p.me) (K (.sy (.bool r.q)) (.node (.node .leaf (some (bu p.log)) .leaf) (some (ce p.N p.rh p.m p.me 1 p.log.length p.ba p.com (p.sh=true) 2)) (.node .leaf (some (.kmap true true false (Int×Int) p.hs aX aW)) .leaf)) 3) true)):=nE (nat:=sx) Cg fun p K hpre hK=>by
 dsimp only at hpre hK ⊢
 obtain⟨G1,G2⟩:=hpre
 have hne:=List.length_pos_iff.2 G1
 have yp {g:Prop} (h:g:=by first|(first|exact⟨fun _=>(fU (by assumption)).1 (by assumption),fun _=>rfl⟩|exact⟨fun h=>by simp at h,fun h=>absurd ((fU (by assumption)).2 h) (by assumption)⟩|(exfalso;omega))|fail):g:=h
 exact wz
noncomputable def uH:NN:=bY sx KA [(0,4)]
noncomputable def ft_addG':NV (aB [] [] [] 0x29831e55d45378cf68f2b2365b10a4a7879d68fa9eac38e127b706897476898c7d2fc9c1cd6d61ee73796a2bcca137dba96947f9fe4dd20b612a77aab58b73d525cb7aa607d61ece1d6dc80eed6c73deacb3f1b93f5cb1ebe0753fccd050baedcb35aa2b):=⟨_,by conv=>rhs;reduce⟩
noncomputable abbrev Zy:XF:=ft_addG'.1
theorem IR:aK Tryz.prog 47 Zy=true:=by kernel_rfl
structure ajg where
 N:Int
 rh:Value
 m:List Int
 me:Int
 log:List Ke
 ba:Int
 com:Int
 sh:Bool
 hs:List (Int×Int)
 x:Ke
structure aip where
 z:Int
 log:List Ke
 com:Int
 hs:List (Int×Int)
theorem XX:aA Tryz.prog 47 1 (aO (fun p:ajg=>([.ptr 0 0,AJ [] p.x.v p.x.w],(.node (.node .leaf (some (bu p.log)) .leaf) (some (ce p.N p.rh p.m p.me 1 p.log.length p.ba p.com (p.sh=true) 2)) (.node .leaf (some (.kmap true true false (Int×Int) p.hs aX aW)) .leaf)),3)) (fun p=>ROk p.m p.me p.log p.ba p.com p.hs∧vQ p.x) (fun p K=>aj fun r:aip=>iP ((r.log,r.com,r.hs)=gT p.m p.me p.log p.com p.sh p.hs p.x) (K (.sy (.int 0 r.z)) (.node (.node .leaf (some (bu r.log)) .leaf) (some (ce p.N p.rh p.m p.me 1 r.log.length p.ba r.com (p.sh=true) 2)) (.node .leaf (some (.kmap true true false (Int×Int) r.hs aX aW)) .leaf)) 3) true)):=nE (nat:=uH) IR fun p K hpre hK=>by
 dsimp only at hpre hK ⊢
 obtain⟨hpre,hx⟩:=hpre
 obtain⟨g1,g2,g3⟩:=hx
 have g4:=hpre.len
 have hm:=ah hpre.nl
 have hne:=List.length_pos_iff.2 (List.ne_nil_of_mem hpre.me)
 have nnr:=trivial
 have nnq:=trivial
 have ys {g:Prop} (h:g:=by first|(simp[bR];omega;done)|fail):g:=h
 have yg {g:Prop} (h:g:=by first|(exact⟨List.ne_nil_of_mem hpre.me,hm⟩)|(first|exact hpre.pre|exact(hpre.more (by simp only[al2,al3,al5];omega)).pre|exact(hpre.put (Classical.not_not.1 (by assumption)) (by have hb:=fx hpre p.p;omega) (by have hb:=fx hpre p.p;omega)).pre|(rw[hi];exact(hpre.put (Classical.not_not.1 (by assumption)) (by have hb:=fx hpre p.p;omega) (by have hb:=fx hpre p.p;omega)).pre))|fail):g:=h
 have yp {g:Prop} (h:g:=by first|(first|(exfalso;omega)|exact aao ⟨Classical.not_not.1 (by assumption),by(have q:=(by assumption:¬p.sh=true);simpa using q),by omega⟩ hi|exact aht (fun h=>by first|exact absurd h.1 (by assumption)|(have h3:=h.2.2;omega)|exact absurd h.2.1 (by simp_all)))|fail):g:=h
 have yq {g:Prop} (h:g:=by first|(refine wX [(.mk ..)] (by first|exact sd|exact ys) ?_;exact wz)|fail):g:=h
 exact wz
noncomputable def tC:NN:=bY uH XX [(0,4),(1,15)]
noncomputable def bd_rgA':NV (df [] [] [] 0x39a371159e5a63635b484754f54996593d2b397f171606f55d75ed):=⟨_,by conv=>rhs;reduce⟩
noncomputable abbrev MI:XC:=bd_rgA'.1
noncomputable def ft_ackG':NV (fun b0=>aB [] [] [b0] 0x4043e578833c3cb87d3a972dad87d649eeb440f0fad6796828365f56b9e4ec5659aa416b87a1ee243b0a3aac8802addd49f432785707700d436083):=⟨_,by conv=>rhs;reduce⟩
noncomputable abbrev Zz:XF:=ft_ackG'.1 MI
theorem IS:aK Tryz.prog 115 Zz=true:=by kernel_rfl
structure akL where
 N:Int
 rh:Value
 m:List Int
 me:Int
 log:List Ke
 ba:Int
 com:Int
 sh:Bool
 hs:List (Int×Int)
 p:Int
 up:Int
structure akp where
 hs:List (Int×Int)
noncomputable def Yo:bN:=cq bT 1 (fun p:akL=>((.cons 4 (.ptr 1 0) (.cons 2 (.sy (.int 0 p.up)) (.cons 0 (.ptr 0 0) .nil))),(.node (.node (.node .leaf (some (.kmap true true false (Int×Int) p.hs aX aW)) .leaf) (some (iU p.p)) .leaf) (some (ce p.N p.rh p.m p.me 2 p.log.length p.ba p.com (p.sh=true) 3)) (.node .leaf (some (bu p.log)) .leaf)),4)) (fun p=>ROk p.m p.me p.log p.ba p.com p.hs∧p.p∈p.m) (fun p K=>aj fun r:akp=>iP (r.hs=cD p.hs p.p (max (getK p.hs p.p) p.up)) (K 0 (.cons 0 (.ptr 0 0) .nil) (.node (.node .leaf (some (bu p.log)) .leaf) (some (ce p.N p.rh p.m p.me 1 p.log.length p.ba p.com (p.sh=true) 2)) (.node .leaf (some (.kmap true true false (Int×Int) r.hs aX aW)) .leaf)) 3) true)
theorem afL:bj Tryz.prog 50 1 Yo false 1 MI:=lP (nat:=tC) cy (fun _ _ _ _=>rfl) fun p K hpre hK=>by
 dsimp only at hpre hK ⊢
 obtain⟨g1,g2⟩:=hpre
 have nnx:=trivial
 have ys {g:Prop} (h:g:=by first|(refine⟨?_,rfl⟩;have e:=(by assumption:_∧_).2;(try dsimp only at e);rw[←e];rfl;done)|fail):g:=h
 have yp {g:Prop} (h:g:=by first|(first|exact ahr g1 (by assumption) hi|exact xI g1 g2 (by assumption)|exact xI g1 g2 hi)|fail):g:=h
 have yz {g:Prop} (h:g:=by first|((try dsimp only);omega;done)|fail):g:=h
 have yq {g:Prop} (h:g:=by first|(refine aY (fun y=>y.1=p.p) ?_;exact wz)|(refine wY (p.p,max (0:Int) p.up) (by first|exact sd|exact ys) (by first|exact sd|exact ys) ?_;exact wz)|(refine wY (p.p,max x1.2 p.up) (by first|exact sd|exact ys) (by first|exact sd|exact ys) ?_;exact wz)|fail):g:=h
 exact wz
structure ajh where
 N:Int
 rh:Value
 m:List Int
 me:Int
 log:List Ke
 ba:Int
 com:Int
 sh:Bool
 hs:List (Int×Int)
 p:Int
 up:Int
structure aiq where
 com:Int
 hs:List (Int×Int)
theorem XY:aA Tryz.prog 115 1 (aO (fun p:ajh=>([.ptr 0 0,eL p.p,.sy (.int 0 p.up)],(.node (.node .leaf (some (bu p.log)) .leaf) (some (ce p.N p.rh p.m p.me 1 p.log.length p.ba p.com (p.sh=true) 2)) (.node .leaf (some (.kmap true true false (Int×Int) p.hs aX aW)) .leaf)),3)) (fun p=>ROk p.m p.me p.log p.ba p.com p.hs∧0≤p.up) (fun p K=>aj fun r:aiq=>iP ((r.com,r.hs)=fZ p.m p.me p.log p.com p.hs p.p p.up) (K (.tup []) (.node (.node .leaf (some (bu p.log)) .leaf) (some (ce p.N p.rh p.m p.me 1 p.log.length p.ba r.com (p.sh=true) 2)) (.node .leaf (some (.kmap true true false (Int×Int) r.hs aX aW)) .leaf)) 3) true)):=nF (nat:=tC) IS (dB afL) fun p K hpre hK=>by
 dsimp only at hpre hK ⊢
 obtain⟨hpre,hup⟩:=hpre
 have g4:=hpre.len
 have hm:=ah hpre.nl
 have hne:=List.length_pos_iff.2 (List.ne_nil_of_mem hpre.me)
 have nnq:=trivial
 have yg {g:Prop} (h:g:=by first|(exact⟨List.ne_nil_of_mem hpre.me,hm⟩)|(exact⟨hpre,Classical.not_not.1 (by assumption)⟩)|(first|exact hpre.pre|exact(hpre.more (by simp only[al2,al3,al5];omega)).pre|exact(hpre.put (Classical.not_not.1 (by assumption)) (by have hb:=fx hpre p.p;omega) (by have hb:=fx hpre p.p;omega)).pre|(rw[hi];exact(hpre.put (Classical.not_not.1 (by assumption)) (by have hb:=fx hpre p.p;omega) (by have hb:=fx hpre p.p;omega)).pre))|fail):g:=h
 have yp {g:Prop} (h:g:=by first|(first|exact ahw (fun h=>by first|exact absurd h.1 (by assumption)|exact absurd (by omega) h.2.1|(have h4:=h.2.2.2;omega)|exact absurd h.2.2.1 (by assumption))|exact aas ⟨Classical.not_not.1 (by assumption),by omega,Classical.not_not.1 (by assumption),by omega⟩ (by assumption) hi)|fail):g:=h
 exact wz
noncomputable def tD:NN:=bY tC XY [(0,4),(1,15),(2,20)]
theorem ad4 {m:List Int} {me:Int} {log:List Ke} {ba com:Int} {sh:Bool} {fr:Int} {l:List Ke} {c:Int} (h:¬(¬m.head?=some me∧ba≤fr∧fr≤(log.length:Int)∧(l.length:Int)≤400 - fr)):(log,com)=fV m me log ba com sh fr l c:=by unfold fV;rw[if_neg h]
theorem VT {m:List Int} {me:Int} {log:List Ke} {ba com:Int} {sh:Bool} {fr:Int} {l:List Ke} {c:Int} (h:¬m.head?=some me∧ba≤fr∧fr≤(log.length:Int)∧(l.length:Int)≤400 - fr) (h2:¬(sh=false∧(log.length:Int) - fr<(l.length:Int))):(log,max com (min c (log.length:Int)))=fV m me log ba com sh fr l c:=by unfold fV;rw[if_pos h,if_neg h2]
theorem EK {m:List Int} {me:Int} {log o:List Ke} {ba com:Int} {sh:Bool} {fr:Int} {l:List Ke} {c:Int} (h:¬m.head?=some me∧ba≤fr∧fr≤(log.length:Int)∧(l.length:Int)≤400 - fr) (h2:sh=false∧(log.length:Int) - fr<(l.length:Int)) (ho:o=l.drop ((log.length:Int) - fr).toNat):(log++o,max com (min c ((log++o).length:Int)))=fV m me log ba com sh fr l c:=by unfold fV;rw[if_pos h,if_pos h2,ho]
theorem iL {m:List Int} {me:Int} {log:List Ke} {ba com:Int} {sh:Bool} {hs:List (Int×Int)} {fr:Int} {l:List Ke} {c:Int} (h:ROk m me log ba com hs):ROk m me (fV m me log ba com sh fr l c).1 ba (fV m me log ba com sh fr l c).2 hs:=by
 unfold fV
 have h1:=h.com0
 have h2:=h.com1
 have h3:=h.ba0
 have h4:=h.len
 split
 ·rename_i q
  have hm:∀{lg:List Ke},ROk m me lg ba com hs→ROk m me lg ba (max com (min c (lg.length:Int))) hs:=fun g=>⟨g.nl,g.me,g.keys,g.len,g.ba0,g.ba1,by have:=g.com0;omega,by have:=g.com1;omega,g.has⟩
  split
  ·rename_i q2
   exact hm (h.more (by rw[al2,amr];omega))
  ·exact hm h
 ·exact h
noncomputable def bd_l_clones_prow':NV (df [] [] [] 0x5dfe0f51269b9af6de564a5511c4a0ffc8128b18fd96258550373d57769b1f5c78ead849a39272c54b1ec2e75):=⟨_,by conv=>rhs;reduce⟩
noncomputable abbrev ik:XC:=bd_l_clones_prow'.1
noncomputable def ft_clones_prow':NV (fun e0 b0=>aB [e0] [] [b0] 0x3ed02084615334680ad2e821830bb6b1ea535707d89cda9ad75a7946c5b6c01e4bd2327c4d617d):=⟨_,by conv=>rhs;reduce⟩
noncomputable abbrev xx:XF:=ft_clones_prow'.1 (eN 68 18 aD) ik
theorem rW:aK Tryz.prog 54 xx=true:=by kernel_rfl
structure nD where
 l:List Ke
 o:List Ke
 i:Int
structure vN where
 o:List Ke
noncomputable def xi:bN:=cq bT 0 (fun p:nD=>((.cons 11 (.sy (.int 0 p.i)) (.cons 10 (.sy (.int 0 (p.l.length:Int))) (.cons 9 (.sy (.prow 0 p.l.length)) (.cons 3 (.sy (.prow 1 p.o.length)) .nil)))),(.node (.node .leaf (some (bu p.o)) .leaf) (some (bu p.l)) .leaf),2)) (fun p=>p.l.length≤1000000∧0≤p.i∧p.i≤(p.l.length:Int)∧p.o=p.l.take p.i.toNat) (fun p K=>aj fun r:vN=>iP (r.o=p.l∧r.o.length=p.l.length) (K 2 (.cons 3 (.sy (.prow 1 r.o.length)) .nil) (.node (.node .leaf (some (bu r.o)) .leaf) (some (bu p.l)) .leaf) 2) true)
theorem tG:bj Tryz.prog 27 1 xi true 0 ik:=lL (nat:=tD) (fun p:nD=>((p.l.length:Int) - p.i).toNat) cy (fun _ _ _ _=>rfl) fun p K hpre hK=>by
 dsimp only at hpre hK ⊢
 obtain⟨g0,g1,g2,g3⟩:=hpre
 have ys {g:Prop} (h:g:=by first|(simp only[bR,al3,al5,g3,ami];omega;done)|fail):g:=h
 have yp {g:Prop} (h:g:=by first|(have e:p.o=p.l:=(by rw[g3];exact List.take_of_length_le (by omega));exact⟨e,by(first|(rw[e];done)|(rw[e];simp;omega))⟩)|fail):g:=h
 have yb {g:Prop} (h:g:=by first|(refine⟨g0,by omega,by omega,?_⟩;rw[show(p.i+1).toNat=p.i.toNat+1 by omega,g3];exact tk (by assumption))|fail):g:=h
 have yq {g:Prop} (h:g:=by first|(refine wX [(.mk ..)] (by first|exact sd|exact ys) ?_;exact wz)|fail):g:=h
 exact wz
structure zw where
 l:List Ke
structure zp where
 o:List Ke
theorem wT:aA Tryz.prog 54 1 (aO (fun p:zw=>([.sy (.prow 0 p.l.length)],(.node .leaf (some (bu p.l)) .leaf),1)) (fun p=>p.l.length≤1000000) (fun p K=>aj fun r:zp=>iP (r.o=p.l∧r.o.length=p.l.length) (K (.sy (.pfix 1 r.o.length r.o.length)) (.node (.node .leaf (some (bu r.o)) .leaf) (some (bu p.l)) .leaf) 2) true)):=nF (nat:=tD) rW (dB tG) fun p K hpre hK=>by
 dsimp only at hpre hK ⊢
 have h1:=hpre
 have ys {g:Prop} (h:g:=by first|(exact⟨rfl,by omega⟩)|(first|omega|(simp;done)|(simp;omega)|(simp only[ami];omega);done)|fail):g:=h
 have yg {g:Prop} (h:g:=by first|(refine⟨h1,by omega,by omega,rfl⟩)|fail):g:=h
 have yq {g:Prop} (h:g:=by first|(refine cb (.mk _ [] ..) (h:= ?_);exact wo)|fail):g:=h
 exact wz
noncomputable def iY:NN:=bY tD wT [(0,25)]
noncomputable def bd_l_clonesE_imm':NV (df [] [] [] 0x7c055192fb0508bf4999afe6e61545ea9b85c2c25c7d7d20374daeec0708e2b9e5c0b916853a2492d5b3679c53):=⟨_,by conv=>rhs;reduce⟩
noncomputable abbrev mC:XC:=bd_l_clonesE_imm'.1
noncomputable def ft_clonesE_imm':NV (fun e0 b0=>aB [e0] [] [b0] 0x1b0d220102ea1551cea954786eafd3733cecfc2e190b320383e59c8e2ada3d56c3d59036600154e):=⟨_,by conv=>rhs;reduce⟩
noncomputable abbrev xy:XF:=ft_clonesE_imm'.1 (eN 68 18 aD) mC
theorem rX:aK Tryz.prog 54 xy=true:=by kernel_rfl
structure nG where
 h:Value
 l:List Ke
 o:List Ke
 i:Int
structure vO where
 o:List Ke
noncomputable def xj:bN:=cq bT 0 (fun p:nG=>((.cons 11 (.sy (.int 0 p.i)) (.cons 10 (.sy (.int 0 (p.l.length:Int))) (.cons 9 (.sy (.imm p.h 18 Ke p.l aD)) (.cons 3 (.sy (.psub 0 18 0 p.o.length 0 (some ((p.l.length:Int).toNat)))) .nil)))),(.node .leaf (some (bu p.o)) .leaf),1)) (fun p=>p.l.length≤1000000∧0≤p.i∧p.i≤(p.l.length:Int)∧p.o=p.l.take p.i.toNat) (fun p K=>aj fun r:vO=>iP (r.o=p.l∧r.o.length=p.l.length) (K 2 (.cons 3 (.sy (.psub 0 18 0 r.o.length 0 (some ((p.l.length:Int).toNat)))) .nil) (.node .leaf (some (bu r.o)) .leaf) 1) true)
theorem tH:bj Tryz.prog 27 0 xj true 0 mC:=lL (nat:=iY) (fun p:nG=>((p.l.length:Int) - p.i).toNat) cy (fun _ _ _ _=>rfl) fun p K hpre hK=>by
 dsimp only at hpre hK ⊢
 obtain⟨g0,g1,g2,g3⟩:=hpre
 have hl0:p.o.length=p.i.toNat:=(by rw[g3,ami];omega)
 have ys {g:Prop} (h:g:=by first|(exact⟨rfl,rfl,by first|rfl|omega,rfl⟩)|(simp only[al3,al5];omega;done)|fail):g:=h
 have yp {g:Prop} (h:g:=by first|(have e:p.o=p.l:=(by rw[g3];exact List.take_of_length_le (by omega));exact⟨e,by rw[e]⟩)|fail):g:=h
 have yb {g:Prop} (h:g:=by first|(refine⟨g0,by omega,by omega,?_⟩;rw[show(p.i+1).toNat=p.i.toNat+1 by omega,g3];exact tk (by assumption))|fail):g:=h
 have yq {g:Prop} (h:g:=by first|(refine wX ((p.l.length:Int).toNat) (by first|exact sd|exact ys) ?_;exact wz)|(refine wX [(.mk ..)] (by first|exact sd|exact ys) ?_;exact wz)|fail):g:=h
 exact wz
structure zy where
 h:Value
 l:List Ke
structure zq where
 o:List Ke
theorem wU:aA Tryz.prog 54 0 (aO (fun p:zy=>([.sy (.imm p.h 18 Ke p.l aD)],.leaf,0)) (fun p=>p.l.length≤1000000) (fun p K=>aj fun r:zq=>iP (r.o=p.l∧r.o.length=p.l.length) (K (.sy (.prow 0 r.o.length)) (.node .leaf (some (bu r.o)) .leaf) 1) true)):=nF (nat:=iY) rX (dB tH) fun p K hpre hK=>by
 dsimp only at hpre hK ⊢
 have h1:=hpre
 have ys {g:Prop} (h:g:=by first|(exact⟨rfl,by omega⟩)|(exact⟨rfl,rfl,rfl,rfl,rfl,congrArg some (by omega)⟩)|fail):g:=h
 have yg {g:Prop} (h:g:=by first|(refine⟨h1,by omega,by omega,rfl⟩)|fail):g:=h
 have yq {g:Prop} (h:g:=by first|(refine cb (.mk _ _ [] ..) (h:= ?_);exact wo)|fail):g:=h
 exact wz
noncomputable def iZ:NN:=bY iY wU [(0,23)]
noncomputable def bd_l_clonesE_pfix':NV (df [] [] [] 0x119fa2df373d2d0e49b02deff355c9ca2217bbaf863b82b192518bf0b605abc864f6f381309dfc7a65ea0e21fd):=⟨_,by conv=>rhs;reduce⟩
noncomputable abbrev kE:XC:=bd_l_clonesE_pfix'.1
noncomputable def ft_clonesE_pfix':NV (fun e0 b0=>aB [e0] [] [b0] 0x3ed02084615334680ad2e821830bb6b1ea535707d89cda9ad75a7946c5b6c05171a091c2e700de):=⟨_,by conv=>rhs;reduce⟩
noncomputable abbrev vk:XF:=ft_clonesE_pfix'.1 (eN 68 18 aD) kE
theorem qB:aK Tryz.prog 54 vk=true:=by kernel_rfl
structure mI where
 l:List Ke
 n:Nat
 c:Nat
 o:List Ke
 i:Int
structure ue where
 o:List Ke
noncomputable def uX:bN:=cq bT 0 (fun p:mI=>((.cons 11 (.sy (.int 0 p.i)) (.cons 10 (.sy (.int 0 (p.n:Int))) (.cons 9 (.sy (.pfix 0 p.n p.c)) (.cons 3 (.sy (.psub 1 18 0 p.o.length 0 (some ((p.n:Int).toNat)))) .nil)))),(.node (.node .leaf (some (bu p.o)) .leaf) (some (bu p.l)) .leaf),2)) (fun p=>p.n≤p.l.length∧p.n≤1000000∧0≤p.i∧p.i≤(p.n:Int)∧p.o=p.l.take p.i.toNat) (fun p K=>aj fun r:ue=>iP (r.o=p.l.take p.n∧r.o.length=p.n) (K 2 (.cons 3 (.sy (.psub 1 18 0 r.o.length 0 (some ((p.n:Int).toNat)))) .nil) (.node (.node .leaf (some (bu r.o)) .leaf) (some (bu p.l)) .leaf) 2) true)
theorem rT:bj Tryz.prog 27 1 uX true 0 kE:=lL (nat:=iZ) (fun p:mI=>((p.n:Int) - p.i).toNat) cy (fun _ _ _ _=>rfl) fun p K hpre hK=>by
 dsimp only at hpre hK ⊢
 obtain⟨g0,g1,g2,g3,g4⟩:=hpre
 have hl0:p.o.length=p.i.toNat:=(by rw[g4,ami];omega)
 have ys {g:Prop} (h:g:=by first|(exact⟨rfl,rfl,by first|rfl|omega,rfl⟩)|(simp only[al3,al5];omega;done)|fail):g:=h
 have yp {g:Prop} (h:g:=by first|(have e:p.o=p.l.take p.n:=(by rw[g4];exact congrArg (fun m=>List.take m _) (by omega));exact⟨e,by rw[e];rw[ami];omega⟩)|fail):g:=h
 have yb {g:Prop} (h:g:=by first|(refine⟨g0,g1,by omega,by omega,?_⟩;rw[show(p.i+1).toNat=p.i.toNat+1 by omega,g4];exact tk (by assumption))|fail):g:=h
 have yq {g:Prop} (h:g:=by first|(refine wX ((p.n:Int).toNat) (by first|exact sd|exact ys) ?_;exact wz)|(refine wX [(.mk ..)] (by first|exact sd|exact ys) ?_;exact wz)|fail):g:=h
 exact wz
structure xM where
 l:List Ke
 n:Nat
 c:Nat
structure xK where
 o:List Ke
theorem uR:aA Tryz.prog 54 1 (aO (fun p:xM=>([.sy (.pfix 0 p.n p.c)],(.node .leaf (some (bu p.l)) .leaf),1)) (fun p=>p.n≤p.l.length∧p.n≤1000000) (fun p K=>aj fun r:xK=>iP (r.o=p.l.take p.n∧r.o.length=p.n) (K (.sy (.prow 1 r.o.length)) (.node (.node .leaf (some (bu r.o)) .leaf) (some (bu p.l)) .leaf) 2) true)):=nF (nat:=iZ) qB (dB rT) fun p K hpre hK=>by
 dsimp only at hpre hK ⊢
 obtain⟨h1,h2⟩:=hpre
 have ys {g:Prop} (h:g:=by first|(exact⟨rfl,by omega⟩)|(exact⟨rfl,rfl,rfl,rfl,rfl,congrArg some (by omega)⟩)|fail):g:=h
 have yg {g:Prop} (h:g:=by first|(refine⟨h1,h2,by omega,by omega,rfl⟩)|fail):g:=h
 have yq {g:Prop} (h:g:=by first|(refine cb (.mk _ _ _ [] ..) (h:= ?_);exact wo)|fail):g:=h
 exact wz
noncomputable def ie:NN:=bY iZ uR [(0,28)]
noncomputable abbrev mB:XC:=ik
noncomputable def ft_clones_psub':NV (fun e0 b0=>aB [e0] [] [b0] 0x4b2b85227f8fb4b622ae8888aeeb669735ac51539c5cb0978bba35cfe15a02427799159b2a79212a5e453):=⟨_,by conv=>rhs;reduce⟩
noncomputable abbrev xw:XF:=ft_clones_psub'.1 (eN 68 18 aD) mB
theorem rV:aK Tryz.prog 54 xw=true:=by kernel_rfl
structure nC where
 l:List Ke
 a:Nat
 n:Nat
 o:List Ke
 i:Int
structure vM where
 o:List Ke
noncomputable def xg:bN:=cq bT 0 (fun p:nC=>((.cons 11 (.sy (.int 0 p.i)) (.cons 10 (.sy (.int 0 (p.n:Int))) (.cons 9 (.sy (.psub 0 18 p.a p.n 0 none)) (.cons 3 (.sy (.prow 1 p.o.length)) .nil)))),(.node (.node .leaf (some (bu p.o)) .leaf) (some (bu p.l)) .leaf),2)) (fun p=>p.a+p.n≤p.l.length∧p.n≤1000000∧0≤p.i∧p.i≤(p.n:Int)∧p.o=(p.l.drop p.a).take p.i.toNat) (fun p K=>aj fun r:vM=>iP (r.o=(p.l.drop p.a).take p.n∧r.o.length=p.n) (K 2 (.cons 3 (.sy (.prow 1 r.o.length)) .nil) (.node (.node .leaf (some (bu r.o)) .leaf) (some (bu p.l)) .leaf) 2) true)
theorem tF:bj Tryz.prog 27 1 xg true 0 mB:=lL (nat:=ie) (fun p:nC=>((p.n:Int) - p.i).toNat) cy (fun _ _ _ _=>rfl) fun p K hpre hK=>by
 dsimp only at hpre hK ⊢
 obtain⟨g0,g1,g2,g3,g4⟩:=hpre
 have ys {g:Prop} (h:g:=by first|(simp only[bR,al3,al5,g4,ami,amr];omega;done)|fail):g:=h
 have yp {g:Prop} (h:g:=by first|(have e:p.o=(p.l.drop p.a).take p.n:=(by rw[g4];exact congrArg (fun m=>List.take m _) (by omega));exact⟨e,by(first|(rw[e];done)|(rw[e];simp;omega))⟩)|fail):g:=h
 have yb {g:Prop} (h:g:=by first|(refine⟨g0,g1,by omega,by omega,?_⟩;rw[show(p.i+1).toNat=p.i.toNat+1 by omega,g4];exact tkd (by assumption))|fail):g:=h
 have yq {g:Prop} (h:g:=by first|(refine wX [(.mk ..)] (by first|exact sd|exact ys) ?_;exact wz)|fail):g:=h
 exact wz
structure zt where
 l:List Ke
 a:Nat
 n:Nat
structure zo where
 h:Value
 o:List Ke
theorem wR:aA Tryz.prog 54 1 (aO (fun p:zt=>([.sy (.psub 0 18 p.a p.n 0 none)],(.node .leaf (some (bu p.l)) .leaf),1)) (fun p=>p.a+p.n≤p.l.length∧p.n≤1000000) (fun p K=>aj fun r:zo=>iP (r.o=(p.l.drop p.a).take p.n∧r.o.length=p.n) (K (.sy (.imm r.h 18 Ke r.o aD)) (.node .leaf (some (bu p.l)) .leaf) 1) true)):=nF (nat:=ie) rV (dB tF) fun p K hpre hK=>by
 dsimp only at hpre hK ⊢
 obtain⟨h1,h2⟩:=hpre
 have ys {g:Prop} (h:g:=by first|(exact⟨rfl,by omega⟩)|(first|omega|(simp;done)|(simp;omega)|(simp only[ami];omega);done)|fail):g:=h
 have yg {g:Prop} (h:g:=by first|(refine⟨h1,h2,by omega,by omega,rfl⟩)|fail):g:=h
 have yq {g:Prop} (h:g:=by first|(refine cb (.mk _ _ _ [] ..) (h:= ?_);exact wo)|fail):g:=h
 exact wz
noncomputable def iX:NN:=bY ie wR [(0,26)]
noncomputable def bd_l_pclones_imm':NV (df [] [] [] 0x1edaab67351af7782efc4e6e235e54ad1a55999f14f40516dd56047d445a4e66738d5b858c040b8aa84cc51b):=⟨_,by conv=>rhs;reduce⟩
noncomputable abbrev mA:XC:=bd_l_pclones_imm'.1
noncomputable def ft_pclones_imm':NV (fun e0 b0=>aB [e0] [] [b0] 0x2cd8529fd71e143681dd2ccaf2cab7989bb27378914e4bffdd802):=⟨_,by conv=>rhs;reduce⟩
noncomputable abbrev xv:XF:=ft_pclones_imm'.1 (eN 68 18 aD) mA
theorem rU:aK Tryz.prog 132 xv=true:=by kernel_rfl
structure nB where
 h:Value
 l:List Ke
 o:List Ke
 i:Int
structure vL where
 o:List Ke
noncomputable def xe:bN:=cq bT 0 (fun p:nB=>((.cons 8 (.sy (.int 0 p.i)) (.cons 7 (.sy (.int 0 (p.l.length:Int))) (.cons 6 (.sy (.imm p.h 18 Ke p.l aD)) (.cons 3 (.sy (.prow 0 p.o.length)) .nil)))),(.node .leaf (some (bu p.o)) .leaf),1)) (fun p=>p.l.length≤1000000∧0≤p.i∧p.i≤(p.l.length:Int)∧p.o=p.l.take p.i.toNat) (fun p K=>aj fun r:vL=>iP (r.o=p.l∧r.o.length=p.l.length) (K 2 (.cons 3 (.sy (.prow 0 r.o.length)) .nil) (.node .leaf (some (bu r.o)) .leaf) 1) true)
theorem tE:bj Tryz.prog 19 0 xe true 0 mA:=lL (nat:=iX) (fun p:nB=>((p.l.length:Int) - p.i).toNat) cy (fun _ _ _ _=>rfl) fun p K hpre hK=>by
 dsimp only at hpre hK ⊢
 obtain⟨g0,g1,g2,g3⟩:=hpre
 have ys {g:Prop} (h:g:=by first|(simp only[bR,al3,al5,g3,ami];omega;done)|fail):g:=h
 have yp {g:Prop} (h:g:=by first|(have e:p.o=p.l:=(by rw[g3];exact List.take_of_length_le (by omega));exact⟨e,by rw[e]⟩)|fail):g:=h
 have yb {g:Prop} (h:g:=by first|(refine⟨g0,by omega,by omega,?_⟩;rw[show(p.i+1).toNat=p.i.toNat+1 by omega,g3];exact tk (by assumption))|fail):g:=h
 have yq {g:Prop} (h:g:=by first|(refine wX [(.mk ..)] (by first|exact sd|exact ys) ?_;exact wz)|fail):g:=h
 exact wz
structure zr where
 h:Value
 l:List Ke
structure zn where
 h:Value
 o:List Ke
theorem wL:aA Tryz.prog 132 0 (aO (fun p:zr=>([.sy (.imm p.h 18 Ke p.l aD)],.leaf,0)) (fun p=>p.l.length≤1000000) (fun p K=>aj fun r:zn=>iP (r.o=p.l∧r.o.length=p.l.length) (K (.sy (.imm r.h 18 Ke r.o aD)) .leaf 0) true)):=nF (nat:=iX) rU (dB tE) fun p K hpre hK=>by
 dsimp only at hpre hK ⊢
 have h1:=hpre
 have yg {g:Prop} (h:g:=by first|(refine⟨h1,by omega,by omega,rfl⟩)|fail):g:=h
 have yq {g:Prop} (h:g:=by first|(refine cb (.mk _ _ [] ..) (h:= ?_);exact wo)|fail):g:=h
 exact wz
noncomputable def mW:NN:=bY iX wL [(0,23)]
noncomputable def ft_takG':NV (aB [] [] [] 0x40106a8b2d3087e95a6697e3283a9d1995c00ae09fee54ff0f785c046f933bd0a27d00d0c7351be4bebabf6fc3f2de18e4098ef5ee6fab128bd3c076f21e51c8725fc30e1e55d4ab1ba937e8eb079ce3200ba465ef1206e43fa5f2f975376939c3a7ba1d3ee247e118e5a4f6ced280a79146d6e0e19fb918cb5c62191ec63bf):=⟨_,by conv=>rhs;reduce⟩
noncomputable abbrev YZ:XF:=ft_takG'.1
theorem It:aK Tryz.prog 109 YZ=true:=by kernel_rfl
structure aiy where
 N:Int
 rh:Value
 m:List Int
 me:Int
 log:List Ke
 ba:Int
 com:Int
 sh:Bool
 hs:List (Int×Int)
 fr:Int
 h:Value
 l:List Ke
 c:Int
structure ahH where
 q:Prop
 log:List Ke
 com:Int
theorem Xd:aA Tryz.prog 109 1 (aO (fun p:aiy=>([.ptr 0 0,.sy (.int 0 p.fr),.sy (.imm p.h 18 Ke p.l aD),.sy (.int 0 p.c)],(.node (.node .leaf (some (bu p.log)) .leaf) (some (ce p.N p.rh p.m p.me 1 p.log.length p.ba p.com (p.sh=true) 2)) (.node .leaf (some (.kmap true true false (Int×Int) p.hs aX aW)) .leaf)),3)) (fun p=>ROk p.m p.me p.log p.ba p.com p.hs∧0≤p.fr∧0≤p.c∧p.fr≤4294967296∧p.l.length≤1000000) (fun p K=>aj fun r:ahH=>iP ((r.log,r.com)=fV p.m p.me p.log p.ba p.com p.sh p.fr p.l p.c) (K (.sy (.bool r.q)) (.node (.node .leaf (some (bu r.log)) .leaf) (some (ce p.N p.rh p.m p.me 1 r.log.length p.ba r.com (p.sh=true) 2)) (.node .leaf (some (.kmap true true false (Int×Int) p.hs aX aW)) .leaf)) 3) true)):=nE (nat:=mW) It fun p K hpre hK=>by
 dsimp only at hpre hK ⊢
 obtain⟨hpre,h0,h1,h2,h3⟩:=hpre
 have g4:=hpre.len
 have g5:=hpre.ba0
 have g6:=hpre.com0
 have g7:=hpre.com1
 have hm:=ah hpre.nl
 have hne:=List.length_pos_iff.2 (List.ne_nil_of_mem hpre.me)
 have nnq:=trivial
 have nnl:=trivial
 have ys {g:Prop} (h:g:=by first|(have hz:=hi.2;simp only[ami,amr]at hz;unfold bR;omega;done)|fail):g:=h
 have yg {g:Prop} (h:g:=by first|(exact⟨List.ne_nil_of_mem hpre.me,hm⟩)|(first|omega|(simp only[ami,amr];omega))|fail):g:=h
 have yp {g:Prop} (h:g:=by first|(first|(exfalso;have hz:=(hi).2;simp only[ami,amr]at hz;omega)|exact ad4 (fun h=>by first|exact absurd (by assumption) h.1|(have h4:=h.2;omega))|exact VT ⟨by assumption,by omega,by omega,by omega⟩ (fun h=>by first|exact absurd h.1 (by simp_all)|(have h4:=h.2;omega))|exact EK ⟨by assumption,by omega,by omega,by omega⟩ ⟨by(have q:=(by assumption:¬p.sh=true);simpa using q),by omega⟩ ((hi).1.trans (List.take_of_length_le (by first|(simp;done)|fail)))|exact EK ⟨by assumption,by omega,by omega,by omega⟩ ⟨by(have q:=(by assumption:¬p.sh=true);simpa using q),by omega⟩ (hi).1)|fail):g:=h
 have yq {g:Prop} (h:g:=by first|(refine wX _ (by first|exact sd|exact ys) ?_;exact wz)|fail):g:=h
 exact wz
noncomputable def AS:NN:=bY mW Xd [(0,4),(1,20),(2,23),(3,20)]
def fW (m:List Int) (me:Int) (log:List Ke) (hs:List (Int×Int)) (p:Int):Int×List Ke:=if m.head?=some me∧p∈m then (getK hs p,(log.drop (getK hs p).toNat).take 16) else (0,[])
theorem aei {m:List Int} {me:Int} {log:List Ke} {hs:List (Int×Int)} {p:Int} (h:¬(m.head?=some me∧p∈m)):((0:Int),([]:List Ke))=fW m me log hs p:=by unfold fW;rw[if_neg h]
theorem Wd {m:List Int} {me:Int} {log o:List Ke} {ba com:Int} {hs:List (Int×Int)} {p:Int} {k:Nat} {x:Int×Int} (hr:ROk m me log ba com hs) (h:m.head?=some me∧p∈m) (hx:x∈hs∧(fun y:Int×Int=>y.1=p) x) (ho:o=(log.drop x.2.toNat).take k∧o.length=k) (hk:(k:Int)=min ((log.length:Int) - x.2) 16):(x.2,o)=fW m me log hs p:=by
 unfold fW
 rw[if_pos h,←rC (by rw[hr.keys];exact hr.nl.1) hx.1 hx.2,ho.1]
 congr 1
 refine List.take_eq_take_iff.2 ?_
 rw[amr]
 have:=hr.has x hx.1
 omega
theorem Wz {m:List Int} {i:Int} {x n:Int} {hs:List (Int×Int)} (hi:0≤i) (h:hs=(m.take i.toNat).map fun y=>(y,n)) (hx:m[i.toNat]?=some x):hs++[(x,n)]=(m.take (i+1).toNat).map fun y=>(y,n):=by
 rw[show(i+1).toNat=i.toNat+1 by omega,List.take_add_one,hx,h]
 simp
theorem WA {m:List Int} {i:Int} {x n:Int} {hs:List (Int×Int)} {j:Nat} {y:Int×Int} (hm:NL m) (h:hs=(m.take i.toNat).map fun y=>(y,n)) (hx:m[i.toNat]?=some x) (hy:hs[j]?=some y∧(fun y:Int×Int=>y.1=x) y):False:=by
 rw[h]at hy
 obtain⟨z,hz,e⟩:=List.mem_map.1 (al7 hy.1)
 have e2:=hy.2
 rw[←e]at e2
 exact wx hm.1 hx (by simpa[←e2] using hz)
noncomputable def ft_sinG':NV (fun e0=>aB [e0] [] [] 0xc2b9b151beed748df03be84d0abecae80c572c6de34d89d2139f7279c03a04bb0e57f3a87fb25c473882e84dc2e8d5ffbd3a40bae2aeae8385caaab91933ed1c9f85618b71b7a6e4beb2f1fd9a008543f0cd3be85ab2a134707):=⟨_,by conv=>rhs;reduce⟩
noncomputable abbrev Za:XF:=ft_sinG'.1 (eB 68 18 aD)
theorem Iu:aK Tryz.prog 92 Za=true:=by kernel_rfl
structure aiz where
 N:Int
 rh:Value
 m:List Int
 me:Int
 log:List Ke
 ba:Int
 com:Int
 sh:Bool
 hs:List (Int×Int)
 p:Int
structure ahI where
 z:Int
 h:Value
 l:List Ke
theorem Xe:aA Tryz.prog 92 3 (aO (fun p:aiz=>([.ptr 0 0,eL p.p,.int 0 (.ofNat 16)],(.node (.node .leaf (some (bu p.log)) .leaf) (some (ce p.N p.rh p.m p.me 1 p.log.length p.ba p.com (p.sh=true) 2)) (.node .leaf (some (.kmap true true false (Int×Int) p.hs aX aW)) .leaf)),3)) (fun p=>ROk p.m p.me p.log p.ba p.com p.hs) (fun p K=>aj fun r:ahI=>iP ((r.z,r.l)=fW p.m p.me p.log p.hs p.p) (K (.tup [.sy (.int 0 r.z),.sy (.imm r.h 18 Ke r.l aD)]) (.node (.node .leaf (some (bu p.log)) .leaf) (some (ce p.N p.rh p.m p.me 1 p.log.length p.ba p.com (p.sh=true) 2)) (.node .leaf (some (.kmap true true false (Int×Int) p.hs aX aW)) .leaf)) 3) true)):=nE (nat:=AS) Iu fun p K hpre hK=>by
 dsimp only at hpre hK ⊢
 have g4:=hpre.len
 have hm:=ah hpre.nl
 have hne:=List.length_pos_iff.2 (List.ne_nil_of_mem hpre.me)
 have nnx:=trivial
 have nnr:=trivial
 have nnq:=trivial
 have ys {g:Prop} (h:g:=by first|(first|omega|(simp;done)|(simp;omega)|(simp only[ami];omega);done)|fail):g:=h
 have yg {g:Prop} (h:g:=by first|(exact⟨List.ne_nil_of_mem hpre.me,hm⟩)|(first|omega|(simp only[ami,amr];omega))|fail):g:=h
 have yp {g:Prop} (h:g:=by first|(first|exact aei (fun h=>by first|exact absurd h.1 (by assumption)|exact absurd h.2 (by assumption))|exact xI hpre (Classical.not_not.1 (by assumption)) (by assumption)|exact Wd hpre ⟨Classical.not_not.1 (by assumption),Classical.not_not.1 (by assumption)⟩ (by assumption) hi (by omega))|fail):g:=h
 have yz {g:Prop} (h:g:=by first|((try dsimp only);omega;done)|fail):g:=h
 have yj {g:Prop} (h:g:=by first|(have hb_x1:=hpre.has x1 (hi).1;exact wz)|fail):g:=h
 have ye {g:Prop} (h:g:=by first|(exact cR hK (.mk _ _ [] ..))|fail):g:=h
 have yq {g:Prop} (h:g:=by first|(refine aY (fun y=>y.1=p.p) ?_;exact wz)|fail):g:=h
 exact wz
noncomputable def tv:NN:=bY AS Xe [(0,4),(1,15),(2,1)]
noncomputable def bd_l_newr':NV (df [] [] [] 0x11c8639c0e3c3875b8142efd89c096fc21905b72ce4bdbb4900e6a43359e2f63c00a3f3e25e9e0193adf1184d):=⟨_,by conv=>rhs;reduce⟩
noncomputable abbrev yR:XC:=bd_l_newr'.1
noncomputable def ft_newrG':NV (fun a0 b0=>aB [] [a0] [b0] 0x1739db5ed40b1c1a84e1f7d4e6542e2e9bf494256b88949c8538696cccdd2896a441baa9be19f8187c1a6d51153d4ff200d580c1b5e5d595d4b6ddba3134fc75c76271c0ece9229eaeabb09e4382d28c1b0016067b46f49287fd3eb6cf4cdeade333fa95bddf7bad73e919e3a15407d7c3c84911f90601e317061782f43a7b88312bd9954374cf791b98c3e4bab58c4e89e63fd30c907e470f4a5e7fc4a51522f121eeefbd783f7b859a6e95a863286c0f3a240058968dd78aa9dc11ac668042e7c743c5fb6c85957b2a679e53792eef331f97f97a4315d4b3895b890e7245f8afcdf83252e1ff909ef98c07caa4e9a74ee1e828bf91fc12086ceea3cd599902dffdb0008):=⟨_,by conv=>rhs;reduce⟩
noncomputable abbrev Qp:XF:=ft_newrG'.1 (.kb 2 true false (Int×Int) aX aW) yR
theorem DY:aK Tryz.prog 60 Qp=true:=by kernel_rfl
structure Dx where
 N:Int
 mh:Value
 m:List Int
 me:Int
 h:Value
 l:List Ke
 rh:Value
 o:List Ke
 i:Int
 hs:List (Int×Int)
structure RF where
 hs:List (Int×Int)
noncomputable def Pu:bN:=cq bT 0 (fun p:Dx=>((.cons 39 (.sy (.int 0 p.i)) (.cons 38 (.sy (.int 0 (p.m.length:Int))) (.cons 37 (.sy (.imm p.mh 2 Int p.m am)) (.cons 7 (.ptr 0 0) (.cons 2 (.sy (.imm p.h 18 Ke p.l aD)) .nil))))),(.node (.node .leaf (some (bu p.o)) .leaf) (some (ce p.N p.rh p.m p.me 1 p.o.length (p.l.length:Int) (p.l.length:Int) (false=true) 2)) (.node .leaf (some (.kmap true true false (Int×Int) p.hs aX aW)) .leaf)),3)) (fun p=>NL p.m∧¬p.m=[]∧¬p.N=0∧p.me∈p.m∧p.l.length≤400∧0≤p.i∧p.i≤(p.m.length:Int)∧p.hs=(p.m.take p.i.toNat).map fun y=>(y,(p.l.length:Int))) (fun p K=>aj fun r:RF=>iP (r.hs=p.m.map fun y=>(y,(p.l.length:Int))) (K 2 (.cons 7 (.ptr 0 0) .nil) (.node (.node .leaf (some (bu p.o)) .leaf) (some (ce p.N p.rh p.m p.me 1 p.o.length (p.l.length:Int) (p.l.length:Int) (false=true) 2)) (.node .leaf (some (.kmap true true false (Int×Int) r.hs aX aW)) .leaf)) 3) true)
theorem Lb:bj Tryz.prog 52 0 Pu true 0 yR:=lL (nat:=tv) (fun p:Dx=>((p.m.length:Int) - p.i).toNat) cy (fun _ _ _ _=>rfl) fun p K hpre hK=>by
 dsimp only at hpre hK ⊢
 obtain⟨g1,g2,g3,g4,g5,g6,g7,g8⟩:=hpre
 have hl:=ah g1
 have nnx:=trivial
 have ys {g:Prop} (h:g:=by first|(refine⟨?_,rfl⟩;have e:=(by assumption:_∧_).2;(try dsimp only at e);rw[←e];rfl;done)|fail):g:=h
 have yp {g:Prop} (h:g:=by first|(rw[g8,List.take_of_length_le (by omega)])|fail):g:=h
 have yb {g:Prop} (h:g:=by first|(first|exact⟨g1,g2,g3,g4,g5,by omega,by omega,Wz g6 g8 (by assumption)⟩|exact(WA g1 g8 (by assumption) (by assumption)).elim)|fail):g:=h
 have yz {g:Prop} (h:g:=by first|((try dsimp only);omega;done)|fail):g:=h
 have yq {g:Prop} (h:g:=by first|(refine aY (fun y=>y.1=x1) ?_;exact wz)|(refine wY (x1,(p.l.length:Int)) (by first|exact sd|exact ys) (by first|exact sd|exact ys) ?_;exact wz)|(exact jM (.mk _ _ _ p.me p.h ..))|fail):g:=h
 exact wz
structure abB where
 N:Int
 mh:Value
 m:List Int
 me:Int
 h:Value
 l:List Ke
structure aaN where
 rh:Value
 log:List Ke
 hs:List (Int×Int)
theorem OJ:aA Tryz.prog 60 0 (aO (fun p:abB=>([(lU p.N p.mh p.m),eL p.me,.sy (.imm p.h 18 Ke p.l aD)],.leaf,0)) (fun p=>NL p.m∧¬p.m=[]∧¬p.N=0∧p.me∈p.m∧p.l.length≤400) (fun p K=>aj fun r:aaN=>iP (r.log=p.l∧r.hs=p.m.map fun y=>(y,(p.l.length:Int))) (K (.ptr 0 0) (.node (.node .leaf (some (bu r.log)) .leaf) (some (ce p.N r.rh p.m p.me 1 r.log.length (p.l.length:Int) (p.l.length:Int) (false=true) 2)) (.node .leaf (some (.kmap true true false (Int×Int) r.hs aX aW)) .leaf)) 3) true)):=nF (nat:=tv) DY (dB Lb) fun p K hpre hK=>by
 dsimp only at hpre hK ⊢
 obtain⟨G1,G2,G3,G4,G5⟩:=hpre
 have hm:=ah G1
 have hne:=List.length_pos_iff.2 G2
 have nnx:=trivial
 have nnr:=trivial
 have nnq:=trivial
 have ys {g:Prop} (h:g:=by first|(first|rfl|exact(by assumption:_=p.m∧_).1)|(exact⟨rfl,⟨by simp,fun e he=>by simp at he⟩⟩;done)|fail):g:=h
 have yd {g:Prop} (h:g:=by first|(exfalso;first|omega|contradiction)|fail):g:=h
 have yg {g:Prop} (h:g:=by first|(refine⟨?_,?_,?_⟩<;>first|assumption|omega)|(first|omega|(simp only[ami,amr];omega))|(exact⟨G1,G2,G3,G4,G5,by omega,by omega,rfl⟩)|fail):g:=h
 have yp {g:Prop} (h:g:=by first|(refine⟨?_,?_⟩<;>simp_all)|fail):g:=h
 have yz {g:Prop} (h:g:=by first|(first|rfl|exact(by assumption:_=p.m∧_).1)|(exact⟨rfl,⟨by simp,fun e he=>by simp at he⟩⟩;done)|fail):g:=h
 have yq {g:Prop} (h:g:=by first|(refine cb (.mk _ _ _ p.me p.h ..) (h:= ?_);exact wo)|(refine wX p.m (by first|exact sd|exact ys) ?_;exact wz)|(refine wX [] (by first|exact sd|exact ys) ?_;exact wz)|fail):g:=h
 exact wz
noncomputable def Kq:NN:=bY tv OJ [(0,15),(1,15),(2,23)]
end Go.Proofs.Tryz
namespace Go.Proofs.Tryz
open Go.Proofs.YtjhpjjbnojbikaaGreat (yV Ar)
open Go Go.RowKit Go.Sy
open Go.Eng hiding aj
set_option maxRecDepth 1000000
set_option linter.unusedVariables false
set_option maxHeartbeats 4000000
attribute [local irreducible] aq
structure iH where
 r:Int
 x:Int
structure yX where
 z:Int
def oJ (p:iH) (r:yX):Prop:=r.z=p.r*256+p.x
noncomputable def gF (p:iH):IE:=([.sy (.int 3 p.r),.sy (.int 1 p.x)],.leaf,0)
noncomputable def vd (p:iH) (K:KE) (r:yX):Bool:=K (.sy (.int 4 r.z)) .leaf 0
noncomputable def jH (p:iH) (K:KE):Bool:=aj fun r=>iP (oJ p r) (vd p K r) true
def jF (p:iH):Prop:=0≤p.r∧p.r<4294967296∧0≤p.x∧p.x<256
theorem MC {s:IE} {K:KE} (w:iH) (e:∀t,gF w=t→s=t:=by first|(intro t h;dsimp only[gF]at h;subst h;exact rfl)|fail) (g:jF w:=by first|((try dsimp only[jF,oL,oN,Int.reduceNegSucc]);first|done|exact yg|trivial|assumption|omega|(refine⟨?_,?_,?_,?_⟩<;>omega))|fail) (h:jH w K=true):Cl s gF jF jH K:=wS w e g h
theorem HM:aA Tryz.prog 101 0 (fY gF (jO jF jH)):=by
 intro us xs E ρ G F M nx w K R hE hs hd hk0 hr
 obtain⟨p,hk1⟩:=bk hk0
 obtain⟨e,hk2⟩:=ai hk1
 obtain⟨hpre,hk⟩:=ai hk2
 clear hk0 hk1 hk2
 have e1:us=(gF p).1:=congrArg Prod.fst e
 have e2:M=(gF p).2.1:=congrArg (fun x=>x.2.1) e
 have e3:nx=(gF p).2.2:=congrArg (fun x=>x.2.2) e
 clear e
 subst e1;subst e2;subst e3
 obtain⟨h1,h2,h3,h4⟩:=hpre
 obtain⟨x0,ys,q0,q1,rfl⟩:=bf hd
 obtain⟨x1,ys2,q2,q3,rfl⟩:=bf q1
 obtain rfl:ys2=[]:=by simpa[ay] using q3.symm
 obtain rfl:x0= .int .u32 p.r:=amp (q0.symm.trans rfl)
 obtain rfl:x1= .int .u8 p.x:=amp (q2.symm.trans rfl)
 refine(callsIn_wide.1 (yV p.r p.x h1 h2 h3 h4 w)).mono ?_
 rintro en w' ⟨rfl,rfl⟩
 exact hr _ _ _ E ρ _ _ (dV (p:=oJ p ⟨p.r*256+p.x⟩) rfl (aV hk ⟨_⟩)) hE (MLe.refl _) (fun _ _ _ h=>h) hs rfl
noncomputable def DF:NN:=bY Kq HM [(0,20),(1,20)]
structure jz where
 x:Int
structure Dk where
 z:Int
def mM (p:jz) (r:Dk):Prop:=r.z=p.x / 256 % 4294967296
noncomputable def im (p:jz):IE:=([.sy (.int 4 p.x)],.leaf,0)
noncomputable def qw (p:jz) (K:KE) (r:Dk):Bool:=K (.sy (.int 3 r.z)) .leaf 0
noncomputable def iR (p:jz) (K:KE):Bool:=aj fun r=>iP (mM p r) (qw p K r) true
def kJ (p:jz):Prop:=0≤p.x∧p.x<18446744073709551616
theorem CI {s:IE} {K:KE} (w:jz) (e:∀t,im w=t→s=t:=by first|(intro t h;dsimp only[im]at h;subst h;exact rfl)|fail) (g:kJ w:=by first|((try dsimp only[kJ,oL,oN,Int.reduceNegSucc]);first|done|exact yg|trivial|assumption|omega|(constructor<;>omega))|fail) (h:iR w K=true):Cl s im kJ iR K:=wS w e g h
theorem Kw:aA Tryz.prog 114 0 (fY im (jO kJ iR)):=by
 intro us xs E ρ G F M nx w K R hE hs hd hk0 hr
 obtain⟨p,hk1⟩:=bk hk0
 obtain⟨e,hk2⟩:=ai hk1
 obtain⟨hpre,hk⟩:=ai hk2
 clear hk0 hk1 hk2
 have e1:us=(im p).1:=congrArg Prod.fst e
 have e2:M=(im p).2.1:=congrArg (fun x=>x.2.1) e
 have e3:nx=(im p).2.2:=congrArg (fun x=>x.2.2) e
 clear e
 subst e1;subst e2;subst e3
 obtain⟨h1,h2⟩:=hpre
 obtain⟨x0,ys,q0,q1,rfl⟩:=bf hd
 obtain rfl:ys=[]:=by simpa[ay] using q1.symm
 obtain rfl:x0= .int .u64 p.x:=amp (q0.symm.trans rfl)
 refine(callsIn_wide.1 (Ar p.x h1 h2 w)).mono ?_
 rintro en w' ⟨rfl,rfl⟩
 exact hr _ _ _ E ρ _ _ (dV (p:=mM p ⟨p.x / 256 % 4294967296⟩) rfl (aV hk ⟨_⟩)) hE (MLe.refl _) (fun _ _ _ h=>h) hs rfl
noncomputable def uF:NN:=bY DF Kw [(0,20)]
noncomputable def ft_vclG':NV (aB [] [] [] 0x98fea918ae049acedf74d531d645560011e0f88358ef0e333ab47d0a19383f645767aad81):=⟨_,by conv=>rhs;reduce⟩
noncomputable abbrev YX:XF:=ft_vclG'.1
theorem Ir:aK Tryz.prog 123 YX=true:=by kernel_rfl
structure aiw where
 mh:Value
 m:List Int
 th:Value
 t:List Ke
structure ahF where
 mh:Value
 m:List Int
 th:Value
 t:List Ke
theorem Xb:aA Tryz.prog 123 0 (aO (fun p:aiw=>([Fh p.mh p.m p.th p.t],.leaf,0)) (fun p=>p.m.length≤1000000∧p.t.length≤1000000) (fun p K=>aj fun r:ahF=>iP (r.m=p.m∧r.t=p.t) (K (Fh r.mh r.m r.th r.t) .leaf 0) true)):=nE (nat:=uF) Ir fun p K hpre hK=>by
 dsimp only at hpre hK ⊢
 obtain⟨h1,h2⟩:=hpre
 have nnh:=trivial
 have yg {g:Prop} (h:g:=by first|(first|omega|(simp only[ami,amr];omega))|fail):g:=h
 have yp {g:Prop} (h:g:=by first|(exact⟨hi1.1,hi.1⟩)|fail):g:=h
 exact wz
noncomputable def AQ:NN:=bY uF Xb [(0,15)]
end Go.Proofs.Tryz
namespace Go.Proofs.Tryz
open Go Go.RowKit Go.Sy
open Go.Eng hiding aj
set_option maxRecDepth 1000000
set_option linter.unusedVariables false
set_option maxHeartbeats 4000000
attribute [local irreducible] aq
structure Vl where
 mh:Value
 m:List Int
 th:Value
 t:List Ke
def cO (x:Vl):List PL:=[.imm x.mh 2 Int x.m am,.imm x.th 18 Ke x.t aD]
structure QOk (m:List Int) (ph:Int) (gt:List Int) (held:Option Vl) (qt:List Ke) (cm:List Int) (ct:List Ke):Prop where
 nl:NL m
 ne:¬m=[]
 nd:gt.Nodup
 sub:∀x∈gt,x∈m
 qt:qt.length≤400
 held:∀v,held=some v→v.m.length≤1000∧v.t.length≤400
 cm:cm.length≤1000
 ct:ct.length≤400
def eO (m:List Int) (ph:Int) (gt:List Int) (x z:Int):List Int:=if ph=z∧x∈m∧¬x∈gt then gt++[x] else gt
noncomputable def ft_startG':NV (fun e0 e1 e2 a0=>aB [e0,e1,e2] [a0] [] 0x866affb9130600a636bb27e1cd67309b2b32dadbc961a63add2d77cca1639d446eb0b3fa9af282893d0e53840fdddb53fbdbea8b86f88b80cc0511f077854df8):=⟨_,by conv=>rhs;reduce⟩
noncomputable abbrev LL:XF:=ft_startG'.1 (eJ cO) (eC 68 18 aD) (eC 52 2 am) (.kb 1 true false Int am cF)
theorem Cd:aK Tryz.prog 100 LL=true:=by kernel_rfl
structure Ss where
 N:Int
 mh:Value
 m:List Int
 b:Int
structure Rz where
 qh:Value
 gt:List Int
 hh:Value
 qth:Value
 qt:List Ke
 cmh:Value
 cm:List Int
 cth:Value
 ct:List Ke
theorem Kv:aA Tryz.prog 100 0 (aO (fun p:Ss=>([(lU p.N p.mh p.m),.sy (.int 4 p.b)],.leaf,0)) (fun p=>NL p.m∧¬p.m=[]∧¬p.N=0∧¬p.b=0) (fun p K=>aj fun r:Rz=>iP (r.gt=[]∧r.qt=[]∧r.cm=[]∧r.ct=[]) (K (.ptr 0 0) (.node (.node .leaf (some (.kmap true true false Int r.gt am cF)) .leaf) (some (.blk false 161 11 [[.int 1 (.ofNat 0),.sy (.int 3 p.N),.sy (.imm r.qh 2 Int p.m am),.sy (.int 4 p.b),.sy (.int 0 (0:Int)),.map 1,.sy (.int 4 (0:Int)),.sy (.vl r.hh true Vl (none:Option Vl) cO),.sy (.imm r.qth 18 Ke r.qt aD),.sy (.imm r.cmh 2 Int r.cm am),.sy (.imm r.cth 18 Ke r.ct aD)]])) .leaf) 2) true)):=nE (nat:=AQ) Cd fun p K hpre hK=>by
 dsimp only at hpre hK ⊢
 obtain⟨G1,G2,G3,G4⟩:=hpre
 have hm:=ah G1
 have ys {g:Prop} (h:g:=by first|(first|rfl|exact(by assumption:_=p.m∧_).1)|(exact⟨rfl,⟨by simp,fun e he=>by simp at he⟩⟩;done)|fail):g:=h
 have yd {g:Prop} (h:g:=by first|(exfalso;omega)|fail):g:=h
 have yg {g:Prop} (h:g:=by first|(refine⟨?_,?_,?_⟩<;>first|assumption|omega)|fail):g:=h
 have yp {g:Prop} (h:g:=by first|(exact⟨rfl,rfl,rfl,rfl⟩)|fail):g:=h
 have ye {g:Prop} (h:g:=by first|(exact cR hK (.mk _ _ _ _ [] _ [] _ [] ..))|fail):g:=h
 have yq {g:Prop} (h:g:=by first|(refine wX p.m (by first|exact sd|exact ys) ?_;exact wz)|(refine wX [] (by first|exact sd|exact ys) ?_;exact wz)|fail):g:=h
 exact wz
noncomputable def uE:NN:=bY AQ Kv [(0,15),(1,20)]
theorem Mv {m:List Int} {ph:Int} {gt:List Int} {x z:Int} (h:¬(ph=z∧x∈m∧¬x∈gt)):((false=true)↔(ph=z∧x∈m∧¬x∈gt))∧gt=eO m ph gt x z:=⟨⟨fun q=>by simp at q,fun q=>absurd q h⟩,by unfold eO;rw[if_neg h]⟩
theorem Ge {m:List Int} {ph:Int} {gt:List Int} {x z:Int} (h:ph=z∧x∈m∧¬x∈gt):((true=true)↔(ph=z∧x∈m∧¬x∈gt))∧gt++[x]=eO m ph gt x z:=⟨⟨fun _=>h,fun _=>rfl⟩,by unfold eO;rw[if_pos h]⟩
theorem Cz {m:List Int} {ph:Int} {gt:List Int} {x z:Int} (h1:gt.Nodup) (h2:∀y∈gt,y∈m):(eO m ph gt x z).Nodup∧∀y∈eO m ph gt x z,y∈m:=by
 unfold eO
 split
 ·rename_i q
  refine⟨List.nodup_append.2 ⟨h1,by simp,fun a ha b hb e=> ?_⟩,fun y hy=> ?_⟩
  ·simp only[List.mem_singleton]at hb
   subst hb;subst e;exact q.2.2 ha
  ·rcases amh.1 hy with hy|hy
   ·exact h2 y hy
   ·simp only[List.mem_singleton]at hy
    subst hy;exact q.2.1
 ·exact⟨h1,h2⟩
noncomputable def zOf (us:List AV) (a:Nat):Nat:=match bS us a with
 |some (.int _ (.ofNat z))=>z
 |_=>999
noncomputable def ft_count0':NV (aB [] [] [] 0x3f412b240c871ba0fa8fff4f6d76fd7681f3347db7811d197737f384de86b5772b29bb48d01ccc6f933b1a8c9be9b147bfeb24b1e2df1604cb6e3436a5100e3037db06bd2):=⟨_,by conv=>rhs;reduce⟩
noncomputable abbrev Mb:XF:=ft_count0'.1
theorem qA:aK Tryz.prog 131 Mb=true:=by kernel_rfl
structure SE where
 N:Int
 qh:Value
 m:List Int
 b:Int
 ph:Int
 gt:List Int
 best:Int
 hh:Value
 held:Option Vl
 qth:Value
 qt:List Ke
 cmh:Value
 cm:List Int
 cth:Value
 ct:List Ke
 x:Int
structure RZ where
 q:Prop
 gt:List Int
theorem KH:aA Tryz.prog 131 1 (aO (fun p:SE=>([.ptr 0 0,eL p.x,.int 0 (.ofNat 0)],(.node (.node .leaf (some (.kmap true true false Int p.gt am cF)) .leaf) (some (.blk false 161 11 [[.int 1 (.ofNat 0),.sy (.int 3 p.N),.sy (.imm p.qh 2 Int p.m am),.sy (.int 4 p.b),.sy (.int 0 p.ph),.map 1,.sy (.int 4 p.best),.sy (.vl p.hh true Vl p.held cO),.sy (.imm p.qth 18 Ke p.qt aD),.sy (.imm p.cmh 2 Int p.cm am),.sy (.imm p.cth 18 Ke p.ct aD)]])) .leaf),2)) (fun p=>p.m.length≤8) (fun p K=>aj fun r:RZ=>iP ((r.q↔(p.ph=0∧p.x∈p.m∧¬p.x∈p.gt))∧r.gt=eO p.m p.ph p.gt p.x 0) (K (.sy (.bool r.q)) (.node (.node .leaf (some (.kmap true true false Int r.gt am cF)) .leaf) (some (.blk false 161 11 [[.int 1 (.ofNat 0),.sy (.int 3 p.N),.sy (.imm p.qh 2 Int p.m am),.sy (.int 4 p.b),.sy (.int 0 p.ph),.map 1,.sy (.int 4 p.best),.sy (.vl p.hh true Vl p.held cO),.sy (.imm p.qth 18 Ke p.qt aD),.sy (.imm p.cmh 2 Int p.cm am),.sy (.imm p.cth 18 Ke p.ct aD)]])) .leaf) 2) true)):=nE (nat:=uE) qA fun p K hpre hK=>by
 dsimp only at hpre hK ⊢
 have hm:=hpre
 have nnq:=trivial
 have ys {g:Prop} (h:g:=by first|(refine⟨?_,rfl⟩;have e:=(by assumption:_∧_).2;(try dsimp only at e);rw[←e];rfl;done)|fail):g:=h
 have yp {g:Prop} (h:g:=by first|(first|exact Mv (fun h=>by first|exact absurd h.1 (by assumption)|exact absurd h.2.1 (by assumption)|exact h.2.2 (by have e:=(hi).2;(try dsimp only at e);rw[e];exact(hi).1))|exact Ge ⟨Classical.not_not.1 (by assumption),Classical.not_not.1 (by assumption),fun hx=>(by assumption:∀y∈p.gt,¬(fun y=>p.x=y) y) _ hx rfl⟩|exact absurd (hi).2 ((by assumption:∀y∈p.gt,¬(fun y=>p.x=y) y) _ (al7 (hi).1)))|fail):g:=h
 have yz {g:Prop} (h:g:=by first|(first|assumption|(intro h;simp_all);done)|fail):g:=h
 have yq {g:Prop} (h:g:=by first|(refine aY (fun y=>p.x=y) ?_;exact wz)|(refine wX p.x (by first|exact sd|exact ys) ?_;exact wz)|fail):g:=h
 exact wz
noncomputable def uM:NN:=gj uE KH [(0,4),(1,15),(2,1)] (fun us M=>Nat.beq (zOf us 2) 0)
structure SD where
 N:Int
 qh:Value
 m:List Int
 b:Int
 ph:Int
 gt:List Int
 best:Int
 hh:Value
 held:Option Vl
 qth:Value
 qt:List Ke
 cmh:Value
 cm:List Int
 cth:Value
 ct:List Ke
 x:Int
structure RY where
 q:Prop
 gt:List Int
theorem KG:aA Tryz.prog 131 1 (aO (fun p:SD=>([.ptr 0 0,eL p.x,.int 0 (.ofNat 1)],(.node (.node .leaf (some (.kmap true true false Int p.gt am cF)) .leaf) (some (.blk false 161 11 [[.int 1 (.ofNat 0),.sy (.int 3 p.N),.sy (.imm p.qh 2 Int p.m am),.sy (.int 4 p.b),.sy (.int 0 p.ph),.map 1,.sy (.int 4 p.best),.sy (.vl p.hh true Vl p.held cO),.sy (.imm p.qth 18 Ke p.qt aD),.sy (.imm p.cmh 2 Int p.cm am),.sy (.imm p.cth 18 Ke p.ct aD)]])) .leaf),2)) (fun p=>p.m.length≤8) (fun p K=>aj fun r:RY=>iP ((r.q↔(p.ph=1∧p.x∈p.m∧¬p.x∈p.gt))∧r.gt=eO p.m p.ph p.gt p.x 1) (K (.sy (.bool r.q)) (.node (.node .leaf (some (.kmap true true false Int r.gt am cF)) .leaf) (some (.blk false 161 11 [[.int 1 (.ofNat 0),.sy (.int 3 p.N),.sy (.imm p.qh 2 Int p.m am),.sy (.int 4 p.b),.sy (.int 0 p.ph),.map 1,.sy (.int 4 p.best),.sy (.vl p.hh true Vl p.held cO),.sy (.imm p.qth 18 Ke p.qt aD),.sy (.imm p.cmh 2 Int p.cm am),.sy (.imm p.cth 18 Ke p.ct aD)]])) .leaf) 2) true)):=nE (nat:=uM) qA fun p K hpre hK=>by
 dsimp only at hpre hK ⊢
 have hm:=hpre
 have nnq:=trivial
 have ys {g:Prop} (h:g:=by first|(refine⟨?_,rfl⟩;have e:=(by assumption:_∧_).2;(try dsimp only at e);rw[←e];rfl;done)|fail):g:=h
 have yp {g:Prop} (h:g:=by first|(first|exact Mv (fun h=>by first|exact absurd h.1 (by assumption)|exact absurd h.2.1 (by assumption)|exact h.2.2 (by have e:=(hi).2;(try dsimp only at e);rw[e];exact(hi).1))|exact Ge ⟨Classical.not_not.1 (by assumption),Classical.not_not.1 (by assumption),fun hx=>(by assumption:∀y∈p.gt,¬(fun y=>p.x=y) y) _ hx rfl⟩|exact absurd (hi).2 ((by assumption:∀y∈p.gt,¬(fun y=>p.x=y) y) _ (al7 (hi).1)))|fail):g:=h
 have yz {g:Prop} (h:g:=by first|(first|assumption|(intro h;simp_all);done)|fail):g:=h
 have yq {g:Prop} (h:g:=by first|(refine aY (fun y=>p.x=y) ?_;exact wz)|(refine wX p.x (by first|exact sd|exact ys) ?_;exact wz)|fail):g:=h
 exact wz
noncomputable def uL:NN:=gj uM KG [(0,4),(1,15),(2,1)] (fun us M=>Nat.beq (zOf us 2) 1)
end Go.Proofs.Tryz
